/- cover's Regular, exact: -/
import Derived.Test.YtlckpgahijlmoaaQ49
import Derived.Test.YtlckpgahijlmoaaQ40
import Derived.Test.YtlckpgahijlmoaaQ50
/- R11.shifts. -/
namespace Go.Proofs.Ytlckpgahijlmoaa
open Go.RowKit Go.Shelf

theorem permB_of {n : Nat} {f : Nat → Int} (hr : ∀ i, i < n → 0 ≤ f i ∧ f i < n) (hi : ∀ a b, a < n → b < n → f a = f b → a = b) : permB n f n = true := by
  simp only [permB, permP, Bool.and_eq_true, beq_self_eq_true, and_true, List.all_eq_true, List.mem_range, decide_eq_true_eq]
  refine fun i hin => ⟨hr i hin, ?_⟩
  simp only [Bool.not_eq_true', List.any_eq_false, List.mem_range, beq_iff_eq]
  intro j hj e
  have := hi j i (by omega) hin e
  omega
/-- what the search ends with -/
theorem DV.answer {H : Gl} (hok : checkB H = true) (h1 : oneB H = true) {n0 t1 : Nat} (hO : Over H n0) {qs : List Nat} {h : Nat → Int} (d : DV H n0 t1 qs h qs.length 0) : permB H.n h H.n = true := by
  have hm : ∀ u, u < H.n → ∃ x : Nat, h u = x ∧ x < H.n ∧ x % n0 = u % n0 := fun u hu => by
    rcases d.met u hu with ⟨_, q2⟩ | ⟨x, q1, q2, q3, _⟩
    · exact absurd (d.all hok h1 hu) q2
    · exact ⟨x, q1, q2, q3⟩
  have hs := (d.done hok h1).perm hok h1 hO (fun u hu => by obtain ⟨x, e, _, q⟩ := hm u hu; simpa [e] using q)
  refine permB_of (fun i hi => by obtain ⟨x, e, _, _⟩ := hm i hi; omega) (fun a b ha hb e => inj_of_surj H.n _ hs a b ha hb ?_)
  simp [e]

set_option maxRecDepth 100000 in
set_option maxHeartbeats 2000000 in
theorem rshifts_walk (H : Gl) (hok : checkB H = true) (h1 : oneB H = true) (n0 sheet : Nat) (hO : Over H n0) (hto : sheet * n0 < H.n) (v : Value) (w : World) (hG : GlAt w.heap.size w v H) :
    Calls Try.prog 66 #[.agg #[v], .int .i64 (n0 : Int), .int .i64 (sheet : Int)] w fun e w' => e = .returned (.bool (boolOf (∃ σ, Dk H (sheet * n0) σ))) ∧ Below w.heap.size w w' := by
  have hn := ok_size hok
  have hmk := run_make_row' (P := Try.prog) 35 3 (.int .i64 0) 8 und35 info3 rfl .i64 .i64 H.n (by omega) (by omega)
  obtain ⟨t1, ht1⟩ : ∃ t1, t1 = sheet * n0 := ⟨_, rfl⟩
  rw [← ht1] at hto ⊢
  have qt : IntKind.i64.wrap ((sheet : Int) * (n0 : Int)) = (t1 : Int) := by rw [show (sheet : Int) * (n0 : Int) = ((t1 : Nat) : Int) by rw [ht1]; push_cast; rfl]; exact IntWalk.i64_in _ (by omega)
  have htm : t1 % n0 = 0 := by rw [ht1]; exact Nat.mul_mod_left _ _
  have HG := Lib.hid (And.intro (And.intro hok h1) (And.intro hO (And.intro htm hG)))
  obtain ⟨a, cap, rfl⟩ : ∃ a cap, v = .slice a H.n cap := by obtain ⟨a, _, _, cap, e, _⟩ := hG; exact ⟨a, cap, e⟩
  clear hok hG h1 hO htm ht1
  obtain ⟨N, hN⟩ : ∃ N, N = w.heap.size := ⟨_, rfl⟩
  obtain ⟨n, hne⟩ : ∃ n, n = H.n := ⟨_, rfl⟩
  rw [← hne] at hn hmk hto ⊢
  have HNN := Lib.hid (And.intro hN hne)
  clear hne
  go_enter Try.func66, Try.ntmps66
  go_wp2
  rw [← hN]
  refine wp_named fun W2 hW => ?_
  obtain ⟨d, hd⟩ : ∃ d, d = N + 1 := ⟨_, rfl⟩
  rw [← hd]
  have h2 : IntRow W2 d n (fun i => if i < 0 then -1 else 0) ∧ W2.cell? ⟨N, 0, none⟩ = some (.slice a n cap) ∧ Below N w W2 := by
    have hz : d = (w.alloc (.cells #[.slice a n cap] 24)).heap.size := by simp [hd, hN]
    have := World.rowIs_made (w.alloc (.cells #[.slice a n cap] 24)) (.int .i64 0) n 3
    rw [hW]
    refine ⟨by rw [hz]; exact this.congr (fun i _ => by simp), cell_al (World.cell?_alloc_at _ _ _ _ hN) _, ?_⟩
    exact ((Below.refl _ _).alloc (by omega) _).alloc (by simp; omega) _
  have hNd : N < d := by omega
  have H1 := Lib.hid h2
  clear h2 hW hmk hd hN
  go_loopw [21] (fun i wr => ∃ k : Nat, k ≤ n ∧ i = .int .i64 k ∧ IntRow wr d n (fun i => if i < k then -1 else 0) ∧ wr.cell? ⟨N, 0, none⟩ = some (.slice a n cap) ∧ Below N w wr) (fun i _ => n - (intOf i).toNat)
  case atStart => exact ⟨0, by omega, rfl, H1.out⟩
  case round =>
    clear H1
    obtain ⟨k, hk, rfl, hr, hc, hb⟩ := hrel
    have HK := Lib.hid (And.intro hr (And.intro hc hb))
    rcases Nat.lt_or_ge k n with hkn | hkn
    · have ck := hr.cell hkn
      have fk := hr.frozen k
      have k0 : 0 ≤ (k : Int) := by omega
      have kn : (k : Int) < (n : Int) := by omega
      clear hr hb
      go_wp2
      refine ⟨⟨k + 1, by omega, by simp, (HK.out.1.set k _).congr (fun i _ => ?_), (grownBy_setCell wr d k _).cell HK.out.2.1 (by simp; omega), HK.out.2.2.setCell (by show N ≤ d; omega) _⟩, by simp [intOf]; omega⟩
      by_cases e : i = k
      · simp [e]
      · have : i < k + 1 ↔ i < k := by omega
        simp [e, this]
    · obtain rfl : k = n := by omega
      have H2 := Lib.hid (show IntRow wr d k (fun _ => -1) ∧ wr.cell? ⟨N, 0, none⟩ = some (.slice a k cap) ∧ Below N w wr from ⟨hr.congr (fun i hi => by simp [hi]), hc, hb⟩)
      have ck := H2.out.1.cell (show 0 < k by omega)
      have fk := H2.out.1.frozen 0
      have kn : (0 : Int) < (k : Int) := by omega
      clear hr hc hb HK hk hkn
      go_wp2
      refine wp_named fun W3 hW => ?_
      obtain ⟨D, hD⟩ : ∃ D, D = wr.heap.size := ⟨_, rfl⟩
      rw [← hD]
      have hQ : PQR w W3 N d k (.slice a k cap) (.slice (some ⟨D, 0, none⟩) 1 1) [0] (fun i => if i = 0 then (t1 : Int) else -1) := by
        obtain ⟨hr, hc, hb⟩ := H2.out
        have hlt := hr.lt
        have hNs := lt_of_cell hc
        simp only at hNs
        have hs := grownBy_setCell wr d 0 (.int .i64 (t1 : Int))
        have hal := World.grownBy_alloc (wr.setCell ⟨d, 0, none⟩ (.int .i64 (t1 : Int))) (.cells #[.int .i64 0] 3) none
        have hown := World.ownsRow_lit (base := d + 1) (e := 3) (size := 1) (wr.setCell ⟨d, 0, none⟩ (.int .i64 (t1 : Int))) #[.int .i64 0] 1 (by simp; omega) (by decide) rfl
        rw [World.size_setCell, ← hD] at hown
        have hr1 : IntRow (wr.setCell ⟨d, 0, none⟩ (.int .i64 (t1 : Int))) d k (fun i => if i = 0 then (t1 : Int) else -1) := (hr.set 0 _).congr (fun i _ => by by_cases e : i = 0 <;> simp [e])
        rw [hW]
        refine ⟨hown, rowIs_kept hr1 hal (by simp), fun j hj => ?_, fun q hq => ?_, ?_, hal.cell (hs.cell hc (by simp; omega)) (by simp), hNd, (hb.setCell (by show N ≤ d; omega) _).alloc (by simp; omega) _⟩
        · by_cases e : j = 0
          · simp only [e, if_true]; omega
          · simp only [e, if_false]; omega
        · simp at hq; omega
        · have e : (fun i => (if i = 0 then (t1 : Int) else -1) + 1) = fun i => if i = 0 then (t1 : Int) + 1 else (fun _ => 0) i := by
            funext i; split <;> simp
          rw [e, nzc_set (s := fun _ => 0) (by omega) (by omega) (by omega)]
          simp
      have hV : DV H n0 t1 [0] (fun i => if i = 0 then (t1 : Int) else -1) 0 0 := DV.start (by have := HNN.out.2; omega) HG.out.2.2.1
      have HQ := Lib.hid (And.intro hQ hV)
      clear hQ hV hW hD ck fk
      go_loopw [9, 10] (fun lv i wr => ∃ (qs : List Nat) (h : Nat → Int) (j : Nat), j ≤ qs.length ∧ i = .int .i64 j ∧ PQR w wr N d k (.slice a k cap) lv qs h ∧ DV H n0 t1 qs h j 0) (fun _ i _ => k - (intOf i).toNat)
      case atStart => exact ⟨_, _, 0, by omega, rfl, HQ.out⟩
      case round =>
        clear HQ
        obtain ⟨qs, h2, j, hj, rfl, hP, hB⟩ := hrel
        obtain ⟨la, lc, rfl⟩ := ownsRow_form hP.own
        have HP := Lib.hid (And.intro hP hB)
        have hlk : qs.length ≤ k := Nat.le_trans hP.cnt (nzc_le _ _)
        rcases Nat.lt_or_ge j qs.length with hjl | hjl
        · obtain ⟨g, gc, hge, hqc, hqk⟩ := hP.qcell hjl
          obtain ⟨rfl, -, rfl⟩ : la = some ⟨g, 0, none⟩ ∧ qs.length = qs.length ∧ lc = gc := by simpa using hge
          obtain ⟨q, hq⟩ : ∃ q, q = qs[j] := ⟨_, rfl⟩
          rw [← hq] at hqc hqk
          have hjq : qs[j]? = some q := by rw [hq]; exact List.getElem?_eq_getElem hjl
          obtain ⟨hN2, hne2⟩ := HNN.out
          have hrow : ∃ b off, a = some ⟨b, off, none⟩ ∧ RowCells wr b (off + q * 20) H q ∧ b < N ∧ ∀ m, m < 4 * H.n → w.cell? ⟨b, off + 5 * m, none⟩ = some (.int .i64 (H.tet m)) := by
            obtain ⟨_, b, off, _, hve, hga, hgc⟩ := HG.out.2.2.2
            obtain ⟨hva, hvc⟩ : a = _ ∧ cap = _ := by simpa using hve
            obtain ⟨hab, hbB⟩ := hga (by omega)
            rw [hab] at hva
            rw [← hN2] at hbB
            exact ⟨b, off, hva, rowCells (fun m hm => ⟨(hP.bel.cell (p := ⟨b, _, none⟩) hbB).trans (hgc m hm).1, fun i hi => (hP.bel.cell (p := ⟨b, _, none⟩) hbB).trans ((hgc m hm).2 i hi)⟩) q (by omega), hbB, fun m hm => (hgc m hm).1⟩
          obtain ⟨b, off, rfl, hrow, hbN, hcells⟩ := hrow
          have hrg := hrow.range
          have c0 := hP.c0
          have j0 : 0 ≤ (j : Int) := by omega
          have jl : (j : Int) < (qs.length : Int) := by omega
          have q0 : 0 ≤ (q : Int) := by omega
          have qk : (q : Int) < (k : Int) := by omega
          have H5 := Lib.hid (And.intro hjq (And.intro hP hB))
          have HC := Lib.hid (And.intro hbN hcells)
          clear hP hB hge hq hjq hN2 hne2 hrow hcells
          go_wp2_with (refine wpList_load_row' rfl 88 (.tmp 47) rfl b (off + q * 20) rfl (rowA H q) _ hrg Try.underlying88 rfl (by kernel_rfl) ?_)
          clear c0 hqc hrg
          go_loopw [9, 49] (fun lv i wr => ∃ (qs : List Nat) (h : Nat → Int) (f : Nat), f ≤ 4 ∧ i = .int .i64 f ∧ qs[j]? = some q ∧ PQR w wr N d k (.slice (some ⟨b, off, none⟩) k cap) lv qs h ∧ DV H n0 t1 qs h j f) (fun _ i _ => 4 - (intOf i).toNat)
          case atStart => exact ⟨qs, h2, 0, by omega, rfl, H5.out⟩
          case round =>
            clear H5
            obtain ⟨qs', h3, f, hf, rfl, hjq, hP, hB⟩ := hrel
            obtain ⟨la', lc', rfl⟩ := ownsRow_form hP.own
            have HP := Lib.hid (And.intro hP hB)
            have hlk' : qs'.length ≤ k := Nat.le_trans hP.cnt (nzc_le _ _)
            obtain ⟨hjl', hqe⟩ := List.getElem?_eq_some_iff.1 hjq
            rcases Nat.lt_or_ge f 4 with hf4 | hf4
            · have hix := fun w => row_index H q f hf4 w
              unfold faceA at hix
              have f0 : 0 ≤ (f : Int) := by omega
              have f4 : (f : Int) < 4 := by omega
              obtain ⟨E, hE⟩ : ∃ E, E = wr.heap.size := ⟨_, rfl⟩
              obtain ⟨g2, gc2, hge, hqc, -⟩ := hP.qcell hjl'
              obtain ⟨rfl, -, rfl⟩ : la' = some ⟨g2, 0, none⟩ ∧ qs'.length = qs'.length ∧ lc' = gc2 := by simpa using hge
              have hgE : g2 < E := by rw [hE]; exact own_lt_size hP.own rfl
              have hgd : d + 1 ≤ g2 := own_ge hP.own rfl
              have HW := Lib.hid (fun ob => hP.kept (World.grownBy_alloc wr ob none))
              have HJ := Lib.hid (And.intro hjq (show k = H.n from HNN.out.2))
              have hkk : 4 * q + f < 4 * H.n := by have := HNN.out.2; omega
              clear hP hB hge hqc hqe hjq
              by_cases hneg : H.tet (4 * q + f) < 0
              · have HX := Lib.hid hneg
                obtain ⟨T, hT⟩ : ∃ T, T = H.tet (4 * q + f) := ⟨_, rfl⟩
                rw [← hT] at hix hneg
                clear hT hE hgE hgd hkk
                go_wp2
                exact ⟨⟨qs', h3, f + 1, by omega, by simp, HJ.out.1, HW.out _, HP.out.2.skip HJ.out.1 HX.out⟩, by simp [intOf]; omega⟩
              · obtain ⟨z, y, hz, hzn, hy, hyn, hym⟩ := HP.out.2.at HG.out.2.1 HJ.out.1 hf4 hneg
                obtain ⟨e1, e2, _⟩ := ok_face HG.out.1.1 hkk hneg
                obtain ⟨x, hx⟩ : ∃ x, x = H.T (4 * q + f) := ⟨_, rfl⟩
                rw [← hx] at e1 e2
                rw [e1] at hix
                have hxk : x < k := by have := HJ.out.2; omega
                have HF := Lib.hid (And.intro hneg (And.intro hx (And.intro hz (And.intro hy (And.intro hyn hym)))))
                have hcz := HC.out.2 (4 * z + f) (by omega)
                rw [hy, show off + 5 * (4 * z + f) = off + z * 20 + f * 5 by omega] at hcz
                have hzk : z < k := by have := HJ.out.2; omega
                have HCZ := Lib.hid hcz
                have x0 : 0 ≤ (x : Int) := by omega
                have xk : (x : Int) < (k : Int) := by omega
                clear hcz hneg e1 e2 hx hz hy hyn hym hzn hkk
                go_wp2
                rw [← hE]
                refine wp_named fun W4 hW4 => ?_
                have h4 : PQR w W4 N d k (.slice (some ⟨b, off, none⟩) k cap) (.slice (some ⟨g2, 0, none⟩) qs'.length lc') qs' h3 ∧ W4.cell? ⟨E, 0, none⟩ = some (.int .i64 (x : Int)) := by
                  rw [hW4]; exact ⟨HW.out _, World.cell?_alloc_at _ _ _ _ hE⟩
                clear hW4 hE hix
                have c0 : W4.drew.cell? ⟨N, 0, none⟩ = some (.slice (some ⟨b, off, none⟩) k cap) := h4.1.c0
                have cz : W4.drew.cell? ⟨d, q, none⟩ = some (.int .i64 (z : Int)) := by rw [← HF.out.2.2.1]; exact h4.1.row.cell hqk
                have cy : W4.drew.cell? ⟨b, off + z * 20 + f * 5, none⟩ = some (.int .i64 (y : Int)) := (h4.1.bel.cell (p := ⟨b, _, none⟩) HC.out.1).trans HCZ.out
                have ce : W4.drew.cell? ⟨E, 0, none⟩ = some (.int .i64 (x : Int)) := h4.2
                have z0 : 0 ≤ (z : Int) := by omega
                have zk : (z : Int) < (k : Int) := by omega
                have HPd := Lib.hid (h4.1.kept (grownBy_drew W4 none))
                clear h4
                refine wp_region_still_lit (by kernel_rfl) (by kernel_rfl) ?_
                repeat (refine wpStill_step (fun K hK => ?_); go_simp; refine hK _ ?_; clear hK K)
                refine wpStill_nil ?_
                change Exit.then _ _ _ _ W4.drew
                obtain ⟨V, hV⟩ : ∃ V, V = W4.drew := ⟨_, rfl⟩
                rw [← hV] at HPd ce ⊢
                clear hV c0 cz cy
                have cx : V.cell? ⟨d, x, none⟩ = some (.int .i64 (h3 x)) := HPd.out.row.cell hxk
                have fx : V.frozen? ⟨d, x, none⟩ = false := HPd.out.row.frozen x
                have hsv := HPd.out.sv x hxk
                obtain ⟨t, ht⟩ : ∃ t, t = h3 x := ⟨_, rfl⟩
                rw [← ht] at cx hsv
                have HT := Lib.hid ht
                clear ht
                have hFn : ¬ H.tet (4 * q + f) < 0 := by have := HF.out.1; omega
                have hHT : H.T (4 * q + f) < H.n := by have := HF.out.2.1; have := HJ.out.2; omega
                have HFN := Lib.hid (And.intro hFn hHT)
                clear hFn hHT
                rcases Int.lt_or_le t 0 with ht0 | ht0
                · have q2 : decide (t < 0) = true := by simpa using ht0
                  have hpush := HP.out.2.push HJ.out.1 hf4 HFN.out.1 HFN.out.2 HF.out.2.2.1 HF.out.2.2.2.1 HF.out.2.2.2.2.1 HF.out.2.2.2.2.2 (by rw [← HF.out.2.1, ← HT.out]; exact ht0)
                  rw [← HF.out.2.1] at hpush
                  have HPP := Lib.hid (And.intro (show (qs' ++ [x])[j]? = some q by rw [List.getElem?_append_left hjl']; exact HJ.out.1) hpush)
                  clear hpush
                  obtain ⟨j0', hj0, hz30, hz31, hz32⟩ := info_parts info3
                  have hEd : E ≠ d := by omega
                  have hgs := grownBy_setCell V d x (.int .i64 (y : Int))
                  have hne : (Value.slice (some ⟨g2, 0, none⟩) qs'.length lc').ownBlock = none ∨ (Value.slice (some ⟨g2, 0, none⟩) qs'.length lc').ownBlock ≠ some d := .inr (by simp [Value.ownBlock]; omega)
                  have hown := ((HPd.out.own.kept hgs hne)).alloc (.cells #[.int .i64 (x : Int)] 3)
                  have hnews := World.news_of_block (cs := #[.int .i64 (x : Int)]) (MapKept.heap_alloc (V.setCell ⟨d, x, none⟩ (.int .i64 (y : Int))) (.cells #[.int .i64 (x : Int)] 3)).1
                  simp only [World.size_setCell] at hnews
                  have hltd := HPd.out.row.lt
                  have hce : ((V.setCell ⟨d, x, none⟩ (.int .i64 (y : Int))).alloc (.cells #[.int .i64 (x : Int)] 3)).cell? ⟨E, 0, none⟩ = some (.int .i64 (x : Int)) := cell_al (hgs.cell ce (by simp; omega)) _
                  have hcd : ((V.setCell ⟨d, x, none⟩ (.int .i64 (y : Int))).alloc (.cells #[.int .i64 (x : Int)] 3)).cell? ⟨d, x, none⟩ = some (.int .i64 (y : Int)) := cell_al (World.cell?_setCell_same _ _ _ cx) _
                  have HA := Lib.hid (And.intro hce (And.intro hcd (And.intro hown hnews)))
                  have n1 : some d ≠ (Value.slice (some ⟨g2, 0, none⟩) qs'.length lc').ownBlock := by simp [Value.ownBlock]; omega
                  have n2 : some E ≠ (Value.slice (some ⟨g2, 0, none⟩) qs'.length lc').ownBlock := by simp [Value.ownBlock]; omega
                  have HNE := Lib.hid (And.intro n1 n2)
                  clear hown hnews hne hce hcd hgs n1 n2
                  go_wp2_with (at_builtin; refine (wpList_append_lies _ rfl (.tmp 78) (.tmp 81) 35 rfl (d + 1) 3 j0' _ 1 8 und35 hj0 hz30 hz31 hz32 rfl (by omega) (.slice (some ⟨g2, 0, none⟩) qs'.length lc') qs'.length _ rfl HA.out.2.2.1 ⟨V.heap.size, 0, none⟩ 1 1 [.int .i64 (x : Int)] rfl rfl HA.out.2.2.2 (by simp [Value.oneCell']) (by omega) (by unfold maxLen; omega) (by omega) (by simp; omega) (V.heap.size + 1) (by simp) ?_); intro g9 c9 w9 r1 r2 r3 r4; have p1 := r2.cell HA.out.1 HNE.out.2; have p2 := r2.cell HA.out.2.1 HNE.out.1; have HR := Lib.hid (And.intro r1 r2); clear r1 r2 r3 r4)
                  exact ⟨⟨qs' ++ [x], _, f + 1, by omega, by simp, HPP.out.1, HPd.out.push hxk (by rw [← HT.out]; exact ht0) (by omega : (0 : Int) ≤ (y : Int)) (World.grownBy_alloc _ _ _) HR.out.1 HR.out.2, HPP.out.2⟩, by simp [intOf]; omega⟩
                · have q2 : decide (t < 0) = false := by simp; omega
                  have hT0 : 0 ≤ h3 (H.T (4 * q + f)) := by rw [← HF.out.2.1, ← HT.out]; exact ht0
                  have HT0 := Lib.hid hT0
                  clear hT0
                  by_cases e : t = (y : Int)
                  · have q3 : (t != (y : Int)) = false := by simpa using e
                    have HE := Lib.hid e
                    clear e
                    go_wp2
                    exact ⟨⟨qs', h3, f + 1, by omega, by simp, HJ.out.1, HPd.out, HP.out.2.same HJ.out.1 HF.out.2.2.1 HT0.out (by rw [← HF.out.2.1, ← HT.out, HE.out, HF.out.2.2.2.1])⟩, by simp [intOf]; omega⟩
                  · have q3 : (t != (y : Int)) = true := by simpa using e
                    have HE := Lib.hid e
                    clear e
                    go_wp2
                    go_ret
                    refine ⟨?_, by rw [← HNN.out.1]; exact HPd.out.bel⟩
                    rw [boolOf_false (fun ⟨σ, hσ⟩ => HP.out.2.clash HJ.out.1 hf4 (by have := HFN.out.1; omega) HFN.out.2 HF.out.2.2.1 HT0.out (by rw [← HF.out.2.1, ← HT.out, HF.out.2.2.2.1]; exact HE.out) σ hσ)]
                    rfl
            · obtain rfl : f = 4 := by omega
              clear hP hB hf
              go_wp2
              exact ⟨⟨qs', h3, j + 1, by omega, by simp, HP.out.1, HP.out.2.next⟩, by simp [intOf]; omega⟩
        · obtain rfl : j = qs.length := by omega
          have h73 := rperm_walk k h2 k (by omega) (by omega) wr.heap.size wr (some ⟨d, 0, none⟩) k (Nat.le_refl _) (SI.of_row hP.row hP.row.lt)
          have hans : permB k h2 k = true := by have := hB.answer HG.out.1.1 HG.out.1.2 HG.out.2.1; rw [← HNN.out.2] at this; exact this
          have c0 := hP.c0
          rw [hans] at h73
          have H73 := Lib.hid h73
          clear hP hB h73 hans
          go_wp2_with fail
          refine H73.out.mono ?_
          rintro e w9 ⟨rfl, hw9⟩
          obtain rfl := hw9
          go_wp2
          go_ret
          exact ⟨by rw [boolOf_true ⟨_, HP.out.2.done HG.out.1.1 HG.out.1.2⟩]; rfl, by rw [← HNN.out.1]; exact HP.out.1.bel⟩
end Go.Proofs.Ytlckpgahijlmoaa
/- R11.Regular. -/
namespace Go.Proofs.Ytlckpgahijlmoaa
open Go.RowKit Go.Shelf

/-- one part, and all sheets are alike -/
noncomputable def regB (H : Gl) (n s : Nat) : Bool := oneB H && (List.range s).all fun i => boolOf (∃ σ, Dk H (i * n) σ)
theorem regB_true {H : Gl} {n s : Nat} (h1 : oneB H = true) (h : ∀ i, i < s → ∃ σ, Dk H (i * n) σ) : regB H n s = true := by
  simp only [regB, h1, Bool.true_and, List.all_eq_true, List.mem_range]
  exact fun i hi => boolOf_true (h i hi)
theorem regB_false {H : Gl} {n s i : Nat} (hi : i < s) (h : ¬ ∃ σ, Dk H (i * n) σ) : regB H n s = false := by
  cases hb : regB H n s with
  | false => rfl
  | true =>
    simp only [regB, Bool.and_eq_true, List.all_eq_true, List.mem_range] at hb
    have := hb.2 i hi
    rw [boolOf_false h] at this; cases this
theorem regB_one {H : Gl} {n s : Nat} (h1 : oneB H = false) : regB H n s = false := by simp [regB, h1]

section
variable (G : Gl) (v : Value) (S : Int) (pv : Value) (np : Nat) (len : Nat → Nat) (fp : Nat → Nat → Int) (w : World) (hG : GlAt w.heap.size w v G) (hm : G.n ≤ 9223372036854775807) (hpv : LLc w.heap.size w pv np len fp) (hlen : ∀ k, k < np → len k < 4611686018427387904) (hnp : np < 4611686018427387904)
include hG hm hpv hlen hnp
set_option maxRecDepth 100000 in
set_option maxHeartbeats 1000000 in
theorem rregular_walk : Calls Try.prog 27 #[.agg #[v], .agg #[.int .i64 S, pv]] w fun e w' => Below w.heap.size w w' ∧ ∃ b, e = .returned (.tuple #[.bool b, .int .i64 (rerI G S np len fp)]) ∧
    ((rerI G S np len fp ≠ 0 ∧ b = false) ∨ (rerI G S np len fp = 0 ∧ b = regB (covG G fp (fun k => invP (fp k) S.toNat) S.toNat) G.n S.toNat)) := by
  have HG := Lib.hid (And.intro hG (And.intro hpv hlen))
  obtain ⟨a, cap, rfl⟩ : ∃ a cap, v = .slice a G.n cap := by obtain ⟨a, _, _, cap, e, _⟩ := hG; exact ⟨a, cap, e⟩
  obtain ⟨pa, pc, rfl⟩ : ∃ a cap, pv = .slice a np cap := by obtain ⟨a, _, _, cap, e, _⟩ := hpv; exact ⟨a, cap, e⟩
  clear hG hpv hlen
  obtain ⟨N, hN⟩ : ∃ N, N = w.heap.size := ⟨_, rfl⟩
  have HN := Lib.hid hN
  go_enter Try.func27, Try.ntmps27
  go_wp2_with fail
  rw [← hN]
  refine wp_world_named fun W0 hW => ?_
  have h0 : Below N w W0 ∧ W0.cell? ⟨N, 0, none⟩ = some (.slice a G.n cap) ∧ W0.cell? ⟨N + 1, 0, none⟩ = some (.int .i64 S) ∧ W0.cell? ⟨N + 1, 1, none⟩ = some (.slice pa np pc) ∧ W0.heap.size = N + 2 := by
    rw [hW, hN]; exact ⟨by (repeat' (first | assumption | exact Below.refl _ _ | refine below_then ?_ (by assumption) | refine below_al ?_ _ | refine below_dr ?_ | refine below_sc ?_ (by simp <;> omega) _)), by simp [go_sem], by simp [go_sem], by simp [go_sem], by simp⟩
  obtain ⟨hb, c0, c1, c2, hz⟩ := h0
  have hbw : Below w.heap.size w W0 := by rw [← hN]; exact hb
  refine (rcheck_walk G (.slice a G.n cap) S (.slice pa np pc) np len fp W0 ((HG.out.1.below hbw).mono hbw.size) hm ((HG.out.2.1.below hbw).mono hbw.size) HG.out.2.2 hnp).mono ?_
  rintro e W1 ⟨rfl, hb1⟩
  have hg1 := below_grown hb1 (Nat.le_refl _) none
  have k0 := hg1.cell c0 (by simp)
  have k1 := hg1.cell c1 (by simp)
  have k2 := hg1.cell c2 (by simp)
  have hbw1 : Below N w W1 := hb.trans (hb1.mono (by omega))
  have hNs : N + 2 ≤ W1.heap.size := by have := hb1.size; omega
  have H1 := Lib.hid hbw1
  clear hW hN hb hb1 c0 c1 c2 hz hbw hg1 hbw1
  by_cases hz : rerI G S np len fp = 0
  · obtain ⟨hok, hcov⟩ := rerI_zero hz
    have hn := ok_size hok
    obtain ⟨s, rfl⟩ : ∃ s : Nat, S = s := ⟨S.toNat, by have := hcov.lo; omega⟩
    have hs24 := hcov.small.1
    have hbw2 : Below w.heap.size w W1 := by rw [← HN.out]; exact H1.out
    have h51 := rmade_walk hok s np len fp hcov (.slice a G.n cap) (.slice pa np pc) W1 ((HG.out.1.below hbw2).mono hbw2.size) (LLc.LLs ((HG.out.2.1.below hbw2).mono hbw2.size))
    have H51 := Lib.hid h51
    have HZ := Lib.hid hz
    rw [hz]
    obtain ⟨H, hH⟩ : ∃ H, H = covG G fp (fun k => invP (fp k) ((s : Int)).toNat) ((s : Int)).toNat := ⟨_, rfl⟩
    have hHok : checkB H = true := by rw [hH]; exact hcov.valid hok
    have hHo : Over H G.n := by rw [hH]; exact covG_over hok hcov.range hcov.irange
    have hHn : H.n = s * G.n := by rw [hH]; rfl
    have HH := Lib.hid (And.intro hH (And.intro hHok (And.intro hHo hHn)))
    rw [show ((s : Int)).toNat = s from rfl] at hs24
    clear hz hok h51 hbw2 hcov hH hHok hHo hHn
    go_wp2_with fail
    refine H51.out.mono ?_
    rintro e W2 ⟨u, rfl, hgl, hb2⟩
    rw [← HH.out.1] at hgl
    obtain ⟨ga, gc, rfl⟩ : ∃ ga gc, u = .slice ga H.n gc := by obtain ⟨a, _, _, cap, e, _⟩ := hgl; exact ⟨a, cap, e⟩
    have hg2 := below_grown hb2 (Nat.le_refl _) none
    have x0 := hg2.cell k0 (by simp)
    have x1 := hg2.cell k1 (by simp)
    have H2 := Lib.hid (And.intro hgl (H1.out.trans (hb2.mono (by omega))))
    clear hg2 k0 k1 k2 hb2 hgl
    go_wp2_with fail
    obtain ⟨D, hD⟩ : ∃ D, D = W2.heap.size := ⟨_, rfl⟩
    rw [← hD]
    refine wp_world_named fun W3 hW => ?_
    have h3 : Below N w W3 ∧ W3.cell? ⟨N, 0, none⟩ = some (.slice a G.n cap) ∧ W3.cell? ⟨N + 1, 0, none⟩ = some (.int .i64 s) ∧ W3.cell? ⟨D, 0, none⟩ = some (.slice ga H.n gc) ∧ GlAt W3.heap.size W3 (.slice ga H.n gc) H := by
      have hbx : Below W2.heap.size W2 W3 := by rw [hW]; exact (Below.refl _ _).alloc (Nat.le_refl _) _
      have hgx := below_grown hbx (Nat.le_refl _) none
      have := H2.out.2.size
      have := HN.out
      refine ⟨H2.out.2.trans (hbx.mono (by omega)), hgx.cell x0 (by simp), hgx.cell x1 (by simp), by rw [hW]; exact World.cell?_alloc_at _ _ _ _ hD, (H2.out.1.below hbx).mono hbx.size⟩
    obtain ⟨hb3, y0, y1, y2, hg3⟩ := h3
    have h65 := rone_walk H HH.out.2.1 (.slice ga H.n gc) W3 hg3
    clear hW hD x0 x1
    refine h65.mono ?_
    rintro e W4 ⟨rfl, hb4⟩
    have hgx := below_grown hb4 (Nat.le_refl _) none
    have hsz : N ≤ W3.heap.size := by have := hb3.size; have := HN.out; omega
    have H4 := Lib.hid (And.intro (hb3.trans (hb4.mono hsz)) (And.intro (hgx.cell y0 (by simp)) (And.intro (hgx.cell y1 (by simp)) (And.intro (hgx.cell y2 (by simp)) ((hg3.below hb4).mono hb4.size)))))
    have hsz4 : N ≤ W4.heap.size := by have := hb4.size; omega
    clear hb3 hb4 y0 y1 y2 hg3 h65 hgx hsz
    obtain ⟨b, hbb⟩ : ∃ b, b = oneB H := ⟨_, rfl⟩
    rw [← hbb]
    have HB := Lib.hid hbb
    clear hbb
    cases b with
    | false =>
      go_wp2
      go_ret2
      exact ⟨by rw [← HN.out]; exact H4.out.1, false, by rw [HZ.out]; rfl, .inr ⟨HZ.out, by rw [← HH.out.1, regB_one HB.out.symm]⟩⟩
    | true =>
      have c1 := H4.out.2.2.1
      have hn0 : 0 < G.n := by
        have := HB.out.symm
        simp only [oneB, Bool.and_eq_true, decide_eq_true_eq] at this
        rcases Nat.eq_zero_or_pos G.n with h | h
        · rw [HH.out.2.2.2, h, Nat.mul_zero] at this; omega
        · exact h
      go_wp2
      clear c1
      go_loopw [8] (fun i wr => ∃ k : Nat, k ≤ s ∧ i = .int .i64 k ∧ Below W4.heap.size W4 wr ∧ ∀ j, j < k → ∃ σ, Dk H (j * G.n) σ) (fun i _ => s - (intOf i).toNat)
      case atStart => exact ⟨0, by omega, rfl, Below.refl _ _, fun j hj => by omega⟩
      case round =>
        obtain ⟨k, hk, rfl, hbr, hall⟩ := hrel
        have hgr := below_grown hbr (Nat.le_refl _) none
        have y0 := hgr.cell H4.out.2.1 (by simp)
        have y1 := hgr.cell H4.out.2.2.1 (by simp)
        have y2 := hgr.cell H4.out.2.2.2.1 (by simp)
        have HK := Lib.hid (And.intro hbr hall)
        rcases Nat.lt_or_ge k s with hks | hks
        · have h66 := rshifts_walk H HH.out.2.1 HB.out.symm G.n k HH.out.2.2.1 (by rw [HH.out.2.2.2]; exact Nat.mul_lt_mul_of_pos_right hks hn0) (.slice ga H.n gc) wr ((H4.out.2.2.2.2.below hbr).mono hbr.size)
          have H66 := Lib.hid h66
          have hszr := hbr.size
          clear hbr hall hgr h66
          go_wp2_with fail
          refine H66.out.mono ?_
          rintro e W6 ⟨rfl, hb6⟩
          have H6 := Lib.hid (HK.out.1.trans (hb6.mono hszr))
          clear hb6 y0 y1 y2
          by_cases hd : ∃ σ, Dk H (k * G.n) σ
          · rw [boolOf_true hd]
            have HD := Lib.hid hd
            clear hd
            go_wp2
            refine ⟨⟨k + 1, by omega, by simp, H6.out, fun j hj => ?_⟩, by simp [intOf]; omega⟩
            rcases Nat.lt_or_ge j k with h | h
            · exact HK.out.2 j h
            · obtain rfl : j = k := by omega
              exact HD.out
          · rw [boolOf_false hd]
            have HD := Lib.hid (regB_false (H := H) (n := G.n) hks hd)
            clear hd
            go_wp2
            go_ret2
            exact ⟨by rw [← HN.out]; exact H4.out.1.trans (H6.out.mono hsz4), false, by rw [HZ.out]; rfl, .inr ⟨HZ.out, by rw [← HH.out.1]; exact HD.out.symm⟩⟩
        · obtain rfl : k = s := by omega
          clear hbr hall hgr y0 y2
          go_wp2
          go_ret2
          exact ⟨by rw [← HN.out]; exact H4.out.1.trans (HK.out.1.mono hsz4), true, by rw [HZ.out]; rfl, .inr ⟨HZ.out, by rw [← HH.out.1]; exact (regB_true HB.out.symm HK.out.2).symm⟩⟩
  · have HZ := Lib.hid hz
    obtain ⟨c, hc⟩ : ∃ c, c = rerI G S np len fp := ⟨_, rfl⟩
    rw [← hc] at hz HZ ⊢
    have HC := Lib.hid hc
    have q1 : (c != 0) = true := by simpa using hz
    clear hz hc k0 k1
    go_wp2
    go_ret2
    exact ⟨by rw [← HN.out]; exact H1.out, false, by rw [HC.out]; rfl, .inl ⟨by rw [← HC.out]; exact HZ.out, rfl⟩⟩
end
end Go.Proofs.Ytlckpgahijlmoaa
namespace Go.Proofs.Ytlckpgahijlmoaa
open Go.RowKit Go.Shelf Go.Maps

section
variable (G : Gl) (v : Value) (sh : Int) (pv : Value) (np : Nat) (len : Nat → Nat) (fp : Nat → Nat → Int) (w : World) (hG : GlAt w.heap.size w v G) (hm : G.n ≤ 9223372036854775807) (hpv : LLs w.heap.size w pv np len fp) (hlen : ∀ k, k < np → len k < 4611686018427387904) (hnp : np < 4611686018427387904)
include hG hm hpv hlen hnp
set_option maxRecDepth 100000 in
set_option maxHeartbeats 2000000 in
theorem pregular_walk : Calls Try.prog 29 #[.agg #[v], .agg #[.int .i64 sh, pv]] w fun e w' => Below w.heap.size w w' ∧ ∃ b c, e = .returned (.tuple #[.bool b, .int .i64 c]) ∧ AskedErr G sh np len fp c ∧ ((c ≠ 0 ∧ b = false) ∨ (c = 0 ∧ b = regB (covG G fp (fun k => invP (fp k) sh.toNat) sh.toNat) G.n sh.toNat)) := by
  have HG := Lib.hid (And.intro hG (And.intro hpv hlen))
  obtain ⟨a, cap, rfl⟩ : ∃ a cap, v = .slice a G.n cap := by obtain ⟨a, _, _, cap, e, _⟩ := hG; exact ⟨a, cap, e⟩
  obtain ⟨pa, pc, rfl⟩ : ∃ a cap, pv = .slice a np cap := by obtain ⟨a, _, _, cap, e, _⟩ := hpv; exact ⟨a, cap, e⟩
  clear hG hpv hlen
  generalize hN : w.heap.size = N at *
  go_enter Try.func29, Try.ntmps29
  go_wp2_with fail
  refine wp_world_named fun W0 hW => ?_
  have h0 : Below N w W0 ∧ W0.cell? ⟨N + 1, 0, none⟩ = some (.int .i64 sh) := by
    rw [hW]; subst hN; exact ⟨by (repeat' (first | assumption | exact Below.refl _ _ | refine below_then ?_ (by assumption) | refine below_al ?_ _ | refine below_dr ?_ | refine below_sc ?_ (by simp <;> omega) _)), by simp [go_sem]⟩
  clear hW
  have hb := h0.1
  have HNN := Lib.hid hN
  have hs0 := hb.size
  refine (asked_walk G (.slice a G.n cap) sh (.slice pa np pc) np len fp W0 ((HG.out.1.below hb).mono (by omega)) hm ((HG.out.2.1.below hb).mono (by omega)) HG.out.2.2 hnp).mono ?_
  rintro e W1 ⟨hb1, h1⟩
  have hbw := hb.trans (hb1.mono (by omega))
  rcases h1.out with ⟨c, hc, rfl, he⟩ | ⟨Cv, B', X, mb, bv, vv, ev, tv, lv, dB, rB, rfl, he, hok, hcov, hCV⟩
  · have HE := Lib.hid (And.intro hbw (And.intro he hc))
    have q1 : (c != 0) = true := by simpa using hc
    clear hb hb1 h1 hbw he hc hN hs0 h0
    go_wp2
    go_ret2
    exact ⟨HE.out.1, false, c, rfl, HE.out.2.1, .inl ⟨HE.out.2.2, rfl⟩⟩
  · have hn : G.n ≤ 1000 := by simp only [checkB, Bool.and_eq_true, decide_eq_true_eq] at hok; exact hok.1
    have hs := hcov.small
    have hO := covG_over hok hcov.range hcov.irange
    have x0 := hCV.sp.c0
    have c0 := hCV.c0
    have y1 := (hb1.cell (p := ⟨N + 1, 0, none⟩) (lt_of_cell h0.2)).trans h0.2
    have hNW : N ≤ W1.heap.size := by have := hbw.size; have := HNN.out; omega
    have h45 := gluing_walk hok hCV (Nat.le_refl _) ((HG.out.1.below hbw).mono hNW) hcov.range hcov.irange (by omega) hs.2
    have hsh : sh = ((sh.toNat : Nat) : Int) := by have := hcov.lo; omega
    have hs1 : 1 ≤ sh.toNat := by have := hcov.lo; omega
    obtain ⟨H, hH⟩ : ∃ H, H = covG G fp (fun k => invP (fp k) sh.toNat) sh.toNat := ⟨_, rfl⟩
    have hHn : H.n = sh.toNat * G.n := by rw [hH]; rfl
    rw [← hH] at h45 hO
    obtain ⟨s, hse⟩ : ∃ s, s = sh.toNat := ⟨_, rfl⟩
    rw [← hse] at hs hHn hsh hs1
    rw [hsh] at y1
    obtain ⟨n, hne⟩ : ∃ n, n = G.n := ⟨_, rfl⟩
    rw [← hne] at hn hs hHn hO x0
    have hHs : H.n ≤ 1000 := by omega
    have HX := Lib.hid (And.intro he (And.intro hH (And.intro (show checkB H = true by rw [hH]; exact hcov.valid hok) (And.intro hse hne))))
    have ans : ∀ (c : Int) (b : Bool), c = 0 → b = regB H n s → c ≠ 0 ∧ b = false ∨ c = 0 ∧ b = regB (covG G fp (fun k => invP (fp k) sh.toNat) sh.toNat) G.n sh.toNat := fun c b h0 hb => .inr ⟨h0, by rw [hb, hH, hne, hse]⟩
    have HANS := Lib.hid ans
    clear ans
    have HE := Lib.hid (And.intro hbw (And.intro c0 (And.intro y1 (And.intro x0 (And.intro h45 (And.intro hO hHn))))))
    clear hb hb1 h1 hbw he hok hcov hCV hN hs0 h0 h45 hO hH hse hsh hne hHn c0 y1 x0
    go_wp2_with fail
    refine HE.out.2.2.2.2.1.mono ?_
    rintro e W2 ⟨u, rfl, hgl, hb2⟩
    obtain ⟨ga, gc, rfl⟩ : ∃ ga gc, u = .slice ga H.n gc := by obtain ⟨a, _, _, cap, e, _⟩ := hgl; exact ⟨a, cap, e⟩
    have H2 := Lib.hid (And.intro hgl hb2)
    clear hgl hb2
    go_wp2_with fail
    refine wp_world_named fun W3 hW => ?_
    have h3 : Below W2.heap.size W2 W3 ∧ W3.cell? ⟨W2.heap.size, 0, none⟩ = some (.slice ga H.n gc) := by
      rw [hW]; exact ⟨by (repeat' (first | assumption | exact Below.refl _ _ | refine below_then ?_ (by assumption) | refine below_al ?_ _ | refine below_dr ?_ | refine below_sc ?_ (by simp <;> omega) _)), by simp [go_sem]⟩
    clear hW
    have hs3 := h3.1.size
    refine (PParts_walk H HX.out.2.2.1 (.slice ga H.n gc) W3 ((H2.out.1.below h3.1).mono hs3)).mono ?_
    rintro e W4 ⟨dd, hh, rfl, hrw, hpt, hb4⟩
    have hcl : ∀ u : Nat, u < H.n → W4.cell? ⟨dd, u, none⟩ = some (.int .i64 (hh u)) := fun u hu => hrw.cell hu
    have y0 := (hb4.cell (p := ⟨W2.heap.size, 0, none⟩) (lt_of_cell h3.2)).trans h3.2
    have hb24 := (H2.out.2.trans (h3.1.mono H2.out.2.size)).trans (hb4.mono (Nat.le_trans H2.out.2.size hs3))
    have st := (H2.out.1.below (h3.1.trans (hb4.mono hs3))).mono (h3.1.trans (hb4.mono hs3)).size
    have HR := Lib.hid (And.intro hb24 (And.intro (And.intro hcl hpt) (And.intro y0 st)))
    clear st hcl hpt hrw
    clear hs3 h3 hb4 hb24 y0
    go_wp2
    go_loopw [33] (fun i wr => ∃ k : Nat, k ≤ H.n ∧ i = .int .i64 k ∧ wr = W4 ∧ ∀ u, u < k → ptR H u = 0) (fun i _ => H.n - (intOf i).toNat)
    case atStart => exact ⟨0, by omega, rfl, rfl, fun u hu => by omega⟩
    case round =>
      obtain ⟨k, hk, rfl, rfl, hz0⟩ := hrel
      have HZ0 := Lib.hid hz0
      clear hz0
      rcases Nat.lt_or_ge k H.n with hkm | hkm
      · have ck := HR.out.2.1.1 k hkm
        obtain ⟨z, hz⟩ : ∃ z, z = hh k := ⟨_, rfl⟩
        rw [← hz] at ck
        have HZ := Lib.hid (show z = ptN H k by rw [hz]; exact HR.out.2.1.2 k hkm)
        clear hz
        rcases Decidable.em (z = 0) with rfl | hz
        · go_wp2
          refine ⟨⟨k + 1, by omega, by simp, trivial, fun u hu => ?_⟩, by simp [intOf]; omega⟩
          rcases Nat.lt_or_ge u k with h1 | h1
          · exact HZ0.out u h1
          · obtain rfl : u = k := by omega
            exact (ptN_zero HX.out.2.2.1 hkm).1 HZ.out.symm
        · have q1 : (z != 0) = true := by simpa using hz
          go_wp2
          go_ret2
          exact ⟨HE.out.1.trans (HR.out.1.mono hNW), false, 0, rfl, HX.out.1, HANS.out 0 false rfl (by rw [regB_one (oneB_false hkm (fun q => hz (by rw [HZ.out]; exact (ptN_zero HX.out.2.2.1 hkm).2 q)))])⟩
      · have hkH : k = H.n := by omega
        have HON := Lib.hid (show ∀ u, u < H.n → ptR H u = 0 from fun u hu => HZ0.out u (by omega))
        subst hkH
        have c0 := (HR.out.1.cell (p := ⟨Cv, 0, none⟩) (lt_of_cell HE.out.2.1)).trans HE.out.2.1
        have x0 := (HR.out.1.cell (p := ⟨X, 0, none⟩) (lt_of_cell HE.out.2.2.2.1)).trans HE.out.2.2.2.1
        go_wp2
        clear c0 x0
        go_loopw [14] (fun i wr => ∃ k : Nat, 1 ≤ k ∧ k ≤ s ∧ i = .int .i64 k ∧ (∀ j, 1 ≤ j → j < k → ∃ σ, Dk H (j * n) σ) ∧ Below W1.heap.size W1 wr ∧ wr.cell? ⟨W2.heap.size, 0, none⟩ = some (.slice ga H.n gc) ∧ GlAt wr.heap.size wr (.slice ga H.n gc) H) (fun i _ => s - (intOf i).toNat)
        case atStart => exact ⟨1, by omega, hs1, rfl, fun j h1 h2 => by omega, HR.out.1, HR.out.2.2.1, HR.out.2.2.2⟩
        case round =>
          obtain ⟨k, hk1, hks, rfl, hall, hbr, hy, hgr⟩ := hrel
          have HALL := Lib.hid hall
          clear hall
          have z1 := (hbr.cell (p := ⟨N + 1, 0, none⟩) (lt_of_cell HE.out.2.2.1)).trans HE.out.2.2.1
          have HK := Lib.hid (And.intro hbr hgr)
          clear hbr hgr
          rcases Nat.lt_or_ge k s with hlt | hge
          · have q2 : decide ((k : Int) < (s : Int)) = true := by simp; omega
            have hkn : k * n ≤ 1000 := Nat.le_trans (Nat.mul_le_mul_right _ hks) hs.2
            rcases Nat.eq_zero_or_pos n with h0 | h0
            · have q1 : decide ((n : Int) = 0) = true := by simp; omega
              have q3 : ((n : Int) == 0) = true := by simp; omega
              go_wp2
              go_ret2
              exact ⟨HE.out.1.trans (HK.out.1.mono hNW), false, 0, rfl, HX.out.1, HANS.out 0 false rfl (by rw [regB_one (by have := HE.out.2.2.2.2.2.2; rw [h0, Nat.mul_zero] at this; simp [oneB, this])])⟩
            · have q3 : ((n : Int) == 0) = false := by simp; omega
              have hon : oneB H = true := oneB_true (by rw [HE.out.2.2.2.2.2.2]; exact Nat.mul_pos (by omega) h0) HON.out
              have h68 := pdeck_walk H HX.out.2.2.1 hon n (k * n) HE.out.2.2.2.2.2.1 hHs (by rw [HE.out.2.2.2.2.2.2]; exact Nat.mul_lt_mul_of_pos_right hlt h0) (Nat.mul_mod_left _ _) (.slice ga H.n gc) wr HK.out.2
              obtain ⟨b5, hb5⟩ : ∃ b5, b5 = boolOf (∃ σ, Dk H (k * n) σ) := ⟨_, rfl⟩
              rw [← hb5] at h68
              have HB5 := Lib.hid hb5
              clear hb5 hon
              obtain ⟨L, hL⟩ : ∃ L : Nat, L = k * n := ⟨_, rfl⟩
              rw [← hL] at h68 hkn
              have q4 : IntKind.i64.wrap ((k : Int) * (n : Int)) = (L : Int) := by
                rw [← Int.natCast_mul, ← hL]
                exact IntWalk.i64_in _ (by omega)
              have H68 := Lib.hid h68
              clear h68 hL
              cases b5 with
              | false =>
                go_wp2_with ((go_at_call 68; (with_reducible refine H68.out.mono ?_); rintro e w5 ⟨rfl, hb5⟩; have hb5x := (HK.out.1.trans (hb5.mono HK.out.1.size)); have hy5 := (hb5.cell (p := ⟨W2.heap.size, 0, none⟩) (lt_of_cell hy)).trans hy; have H5 := Lib.hid (And.intro hb5x (And.intro hy5 ((HK.out.2.below hb5).mono hb5.size))); clear hb5 hb5x hy5))
                go_ret2
                exact ⟨HE.out.1.trans (H5.out.1.mono hNW), false, 0, rfl, HX.out.1, HANS.out 0 false rfl (regB_false hlt (fun q => by have := HB5.out; rw [boolOf_true q] at this; cases this)).symm⟩
              | true =>
                go_wp2_with ((go_at_call 68; (with_reducible refine H68.out.mono ?_); rintro e w5 ⟨rfl, hb5⟩; have hb5x := (HK.out.1.trans (hb5.mono HK.out.1.size)); have hy5 := (hb5.cell (p := ⟨W2.heap.size, 0, none⟩) (lt_of_cell hy)).trans hy; have H5 := Lib.hid (And.intro hb5x (And.intro hy5 ((HK.out.2.below hb5).mono hb5.size))); clear hb5 hb5x hy5))
                refine ⟨⟨k + 1, by omega, by omega, by simp, fun j h1 h2 => ?_, H5.out⟩, by simp [intOf]; omega⟩
                rcases Nat.lt_or_ge j k with h | h
                · exact HALL.out j h1 h
                · obtain rfl : j = k := by omega
                  by_cases q : ∃ σ, Dk H (j * n) σ
                  · exact q
                  · have := HB5.out; rw [boolOf_false q] at this; cases this
          · obtain rfl : k = s := by omega
            have q2 : decide ((k : Int) < (k : Int)) = false := by simp
            go_wp2
            go_ret2
            refine ⟨HE.out.1.trans (HK.out.1.mono hNW), decide (0 < n), 0, by simp, HX.out.1, HANS.out 0 _ rfl ?_⟩
            rcases Nat.eq_zero_or_pos n with h0 | h0
            · rw [regB_one (by have := HE.out.2.2.2.2.2.2; rw [h0, Nat.mul_zero] at this; simp [oneB, this])]; simp [h0]
            · rw [regB_true (oneB_true (by rw [HE.out.2.2.2.2.2.2]; exact Nat.mul_pos (by omega) h0) HON.out) (fun i hi => by
                rcases Nat.eq_zero_or_pos i with rfl | h1
                · rw [Nat.zero_mul]; exact ⟨_, Dk.id HX.out.2.2.1⟩
                · exact HALL.out i h1 hi)]
              simp [h0]
end
end Go.Proofs.Ytlckpgahijlmoaa
