/- A reading's updates, indexed fields and spelt fields, walked. -/
import Derived.Test.YtmjibpjnhehnnaaKg
namespace Go.Proofs.Ytmjibpjnhehnnaa
open Go.RowKit
attribute [local go_sem ↓] Go.wp_at_zero Go.wp_at_succ

set_option maxRecDepth 100000 in
set_option maxHeartbeats 1000000 in
theorem rdresize_any (w0 w : World) (b d : Nat) (g0 : Option Nat) (r lst lim : Nat) (bx : List (Nat × Obj)) (s : Hk.Rd) (h : Rk w0 b d g0 r lst lim bx s w) (n : Nat) (hs : Tk.sum s.l ≤ 65536) (hlim : lim ≤ 65536) :
    Calls Try.prog 43 #[.pointer (some ⟨r, 0, none⟩), .int .i64 (n : Int)] w fun e w' => e = .returned (.int .i64 ((Hk.after lst lim 5 n s).1 : Nat)) ∧ Rk w0 b d g0 r lst lim bx (Hk.after lst lim 5 n s).2 w' := by
  have hR := h
  obtain ⟨g, v, hT, hd, hr, ho, hne, hz, hO, hg, hx⟩ := h
  have hc0 : w.cell? ⟨r, 0, none⟩ = some (.pointer (some ⟨d, 0, none⟩)) := bcell_of hr 0 _ rfl
  have hc2 : w.cell? ⟨r, 2, none⟩ = some (.bool s.begun) := bcell_of hr 2 _ rfl
  have hd0 : w.cell? ⟨d, 0, none⟩ = some (.pointer (some ⟨b, 0, none⟩)) := bcell_of hd 0 _ rfl
  have hd2 : w.cell? ⟨d, 2, none⟩ = some (.int .i64 (lim : Int)) := bcell_of hd 2 _ rfl
  have HR := Lib.hid hr
  have HD := Lib.hid hd
  clear hr hd
  by_cases hbg : s.begun = true
  · have ha : Hk.after lst lim 5 n s = (60, s) := by unfold Hk.after; rw [if_pos rfl, if_pos (.inl hbg)]
    rw [hbg] at hc2
    rw [ha]
    clear ha hbg
    go_enter Try.func43, Try.ntmps43
    go_wp2
    go_ret
    exact ⟨rfl, hR⟩
  · have hbf : s.begun = false := by simpa using hbg
    by_cases hlt : lim < n
    · have ha : Hk.after lst lim 5 n s = (60, s) := by unfold Hk.after; rw [if_pos rfl, if_pos (.inr hlt)]
      rw [hbf] at hc2
      rw [ha]
      have hI : (lim : Int) < (n : Int) := by omega
      clear ha hbg hbf hlt
      go_enter Try.func43, Try.ntmps43
      go_wp2
      go_ret
      exact ⟨rfl, hR⟩
    · have ha : Hk.after lst lim 5 n s = (0, { s with l := Tk.shr n s.l, m := n }) := by unfold Hk.after; rw [if_pos rfl, if_neg (fun h => h.elim hbg hlt)]
      rw [hbf] at hc2
      rw [ha]
      have hI : ¬ (lim : Int) < (n : Int) := by omega
      have hn : n ≤ 65536 := by omega
      have HRS := Lib.hid (resize_good w b g s.l s.m n hT hs hn)
      clear ha hbg hbf hlt hR
      go_enter Try.func43, Try.ntmps43
      go_wp2_with fail
      refine HRS.out.mono ?_
      rintro e w2 ⟨rfl, hT2, hO2⟩
      go_wp2
      go_ret
      exact ⟨rfl, Rk.tab hT HD.out HR.out ho hne hz hO hg hx hT2 hO2 (.inl rfl)⟩

/-- An indexed field. -/
def idxd (lst n : Nat) (s : Hk.Rd) : Nat × Hk.Rd := if (Tk.at_ (Tk.all s.l) (n : Int)).2 then (0, Hk.take lst (Tk.at_ (Tk.all s.l) (n : Int)).1 s) else (50, s)
set_option maxRecDepth 100000 in
set_option maxHeartbeats 1000000 in
theorem indexed_any (w0 w : World) (b d : Nat) (g0 : Option Nat) (r lst lim : Nat) (bx : List (Nat × Obj)) (s : Hk.Rd) (h : Rk w0 b d g0 r lst lim bx s w) (n : Nat) (hn : n ≤ 2147483647) (hw : s.weight + 65536 ≤ 70368744177664) (ho : Tk.sum s.out ≤ s.weight) (hs : Tk.sum s.l ≤ s.m) (hm : s.m ≤ 65536) :
    Calls Try.prog 44 #[.pointer (some ⟨r, 0, none⟩), .int .i64 (n : Int)] w fun e w' => e = .returned (.int .i64 ((idxd lst n s).1 : Nat)) ∧ Rk w0 b d g0 r lst lim bx (idxd lst n s).2 w' := by
  have hsz := Hk.at_size hs hm (n : Int)
  obtain ⟨x, y, is, ha⟩ : ∃ x y is, Tk.at_ (Tk.all s.l) (n : Int) = ((x, y), is) := ⟨_, _, _, rfl⟩
  have hi : idxd lst n s = if is then (0, Hk.take lst (x, y) s) else (50, s) := by unfold idxd; rw [ha]
  rw [ha] at hsz
  rw [hi]
  simp only at hsz
  have HAT := Lib.hid (fun (w : World) (g : Option Nat) (hT : Tab w b g s.l (Tk.sum s.l) s.m) => at_any w b _ s.m g s.l (n : Int) (x, y) is hT ha (by omega))
  have hc0 : w.cell? ⟨r, 0, none⟩ = some (.pointer (some ⟨d, 0, none⟩)) := by obtain ⟨g, v, hT, hd, hr, _⟩ := h; exact bcell_of hr 0 _ rfl
  have hd0 : w.cell? ⟨d, 0, none⟩ = some (.pointer (some ⟨b, 0, none⟩)) := by obtain ⟨g, v, hT, hd, hr, _⟩ := h; exact bcell_of hd 0 _ rfl
  clear ha hi
  have hTT : ∃ g, Tab w b g s.l (Tk.sum s.l) s.m := by obtain ⟨g, v, hT, _⟩ := h; exact ⟨g, hT⟩
  obtain ⟨g, hT⟩ := hTT
  go_enter Try.func44, Try.ntmps44
  go_wp2_with fail
  refine (HAT.out w g hT).mono ?_
  rintro e w2 ⟨rfl, hb2⟩
  have hR2 := h.below hb2
  clear h hT hb2 hc0 hd0
  go_upto_region 2 with fail
  have hR3 := hR2.below (w' := w2.alloc (.cells #[.string x, .string y] 57)) ((Below.refl _ _).alloc (Nat.le_refl _) _)
  have hbox := heap_alloc_new w2 (.cells #[.string x, .string y] 57)
  generalize w2.alloc (.cells #[.string x, .string y] 57) = w3 at *
  generalize w2.heap.size = B at *
  have hb0 : w3.cell? ⟨B, 0, none⟩ = some (.string x) := bcell_of hbox 0 _ rfl
  have hb1 : w3.cell? ⟨B, 1, none⟩ = some (.string y) := bcell_of hbox 1 _ rfl
  clear hR2 hbox
  cases is with
  | false =>
    go_wp2
    go_ret
    exact ⟨rfl, hR3⟩
  | true =>
    go_wp2_with fail
    refine (take_any w0 _ b d g0 r lst lim bx s hR3 x y (by omega) ho).mono ?_
    rintro e w4 ⟨rfl, hR4⟩
    go_wp2
    go_ret
    exact ⟨rfl, hR4⟩

/-- A box of a field. -/
def Bx (x y : ByteArray) : Obj := .cells #[.string x, .string y] 57 (0, 0)
set_option maxRecDepth 100000 in
set_option maxHeartbeats 4000000 in
theorem spelt_any (w0 w : World) (b d : Nat) (g0 : Option Nat) (r lst lim : Nat) (s : Hk.Rd) (h : Rk w0 b d g0 r lst lim [] s w) (n : Nat) (hn : n ≤ 2147483647) (add : Bool) (hB : Hk.Bd 70368744177664 s) :
    Calls Try.prog 45 #[.pointer (some ⟨r, 0, none⟩), .int .i64 (n : Int), .bool add] w fun e w' => e = .returned (.int .i64 ((Hk.spelt lst n add s).1 : Nat)) ∧ Rk w0 b d g0 r lst lim [] (Hk.spelt lst n add s).2 w' := by
  have hBS := Hk.spelt_bd (lst := lst) (n := n) (add := add) hB
  have hrl := hB.weight
  have hns := Hk.name_size hB.tab hB.room n s.rest hB.byte
  have hnl := Hk.name_len n s.l s.rest
  have hvs := Hk.lit_size (Hk.name n s.l s.rest).2.1 hns.2
  obtain ⟨x, rx, ex, hx⟩ : ∃ x rx ex, Hk.name n s.l s.rest = (x, rx, ex) := ⟨_, _, _, rfl⟩
  obtain ⟨y, ry, ey, hy⟩ : ∃ y ry ey, Hk.lit rx = (y, ry, ey) := ⟨_, _, _, rfl⟩
  have hsp : Hk.spelt lst n add s = if ex ≠ 0 then (ex, { s with rest := rx }) else if ey ≠ 0 then (ey, { s with rest := ry }) else (0, Hk.take lst (x, y) { s with rest := ry, l := if add then Tk.add s.m (x, y) s.l else s.l }) := by
    unfold Hk.spelt
    simp only [hx, hy]
  rw [hx] at hns hnl hvs
  simp only at hns hnl hvs
  rw [hy] at hvs
  simp only at hvs
  have hw0 : w0.heap.size ≤ w.heap.size := by obtain ⟨g, v, hT, hd, hr, ho, hne, hz, hO, _⟩ := h; exact hO.size
  have HLT := Lib.hid (fun (w : World) (bx : List (Nat × Obj)) (s' : Hk.Rd) (h : Rk w0 b d g0 r lst lim bx s' w) (hb : Hf.Byte s'.rest) (hl : s'.rest.length ≤ s.rest.length) => literal_any w0 w b d g0 r lst lim bx s' h hb (by omega))
  have HSP := Lib.hid hsp
  have HY := Lib.hid hy
  clear hsp hy
  have hc0 : w.cell? ⟨r, 0, none⟩ = some (.pointer (some ⟨d, 0, none⟩)) := by obtain ⟨g, v, hT, hd, hr, _⟩ := h; exact bcell_of hr 0 _ rfl
  have hd0 : w.cell? ⟨d, 0, none⟩ = some (.pointer (some ⟨b, 0, none⟩)) := by obtain ⟨g, v, hT, hd, hr, _⟩ := h; exact bcell_of hd 0 _ rfl
  go_enter Try.func45, Try.ntmps45
  go_upto_region 2 with fail
  have hR1 := h.box (.cells #[.string ⟨#[]⟩, .string ⟨#[]⟩] 57 (0, 0))
  have hrw := h.lt
  generalize w.alloc (.cells #[.string ⟨#[]⟩, .string ⟨#[]⟩] 57) = w1 at *
  generalize w.heap.size = B at *
  clear h hc0 hd0
  go_upto_if 12 with fail
  go_cut [8] (fun s8 wx => s8 = .int .i64 (ex : Int) ∧ Rk w0 b d g0 r lst lim [(B, Bx x ⟨#[]⟩)] { s with rest := rx } wx)
  case first =>
    by_cases hn0 : n = 0
    · have hlx : Hk.lit s.rest = (x, rx, ex) := by rw [← hx]; unfold Hk.name; rw [if_pos hn0]
      subst hn0
      have hL := HLT.out w1 _ s hR1 hB.byte (Nat.le_refl _)
      rw [hlx] at hL
      have HL := Lib.hid hL
      clear hlx hL
      go_wp2_with fail
      refine HL.out.mono ?_
      rintro e w2 ⟨rfl, hR2⟩
      have hbx2 : w2.heap[B]? = _ := hR2.get
      have hb0 : w2.cell? ⟨B, 0, none⟩ = some (.string ⟨#[]⟩) := bcell_of hbx2 0 _ rfl
      have hf0 : w2.frozen? ⟨B, 0, none⟩ = false := frozen_of_row w2 B 0 _ _ hbx2
      have hR3 : Rk w0 b d g0 r lst lim [(B, Bx x ⟨#[]⟩)] { s with rest := rx } (w2.setCell ⟨B, 0, none⟩ (.string x)) := Rk.setBox hR2 hw0 (by simp)
      clear hbx2 hR2
      go_wp2
      go_meet
      exact ⟨rfl, hR3⟩
    · obtain ⟨z, is, hat⟩ : ∃ z is, Tk.at_ (Tk.all s.l) (n : Int) = ((x, z), is) := by
        refine ⟨(Tk.at_ (Tk.all s.l) (n : Int)).1.2, (Tk.at_ (Tk.all s.l) (n : Int)).2, ?_⟩
        have : (Hk.name n s.l s.rest).1 = x := by rw [hx]
        unfold Hk.name at this
        rw [if_neg hn0] at this
        rw [← this]
      have hnx : rx = s.rest ∧ ex = if is then 0 else 50 := by
        have h1 : (Hk.name n s.l s.rest).2.1 = rx := by rw [hx]
        have h2 : (Hk.name n s.l s.rest).2.2 = ex := by rw [hx]
        unfold Hk.name at h1 h2
        rw [if_neg hn0] at h1 h2
        simp only [hat] at h1 h2
        exact ⟨h1.symm, h2.symm⟩
      obtain ⟨hrx, hex⟩ := hnx
      have HAT := Lib.hid (fun (w : World) (g : Option Nat) (hT : Tab w b g s.l (Tk.sum s.l) s.m) => at_any w b _ s.m g s.l (n : Int) (x, z) is hT hat (by omega))
      have hnI : ((n : Int) == 0) = false := by rw [beq_eq_false_iff_ne]; omega
      have hc0 : w1.cell? ⟨r, 0, none⟩ = some (.pointer (some ⟨d, 0, none⟩)) := by obtain ⟨g, v, hT, hd, hr, _⟩ := hR1; exact bcell_of hr 0 _ rfl
      have hd0 : w1.cell? ⟨d, 0, none⟩ = some (.pointer (some ⟨b, 0, none⟩)) := by obtain ⟨g, v, hT, hd, hr, _⟩ := hR1; exact bcell_of hd 0 _ rfl
      have hTT : ∃ g, Tab w1 b g s.l (Tk.sum s.l) s.m := by obtain ⟨g, v, hT, _⟩ := hR1; exact ⟨g, hT⟩
      obtain ⟨g, hT⟩ := hTT
      have HRX := Lib.hid hrx
      have HEX := Lib.hid hex
      clear hat hn0 hx hrx hex
      go_wp2_with fail
      refine (HAT.out w1 g hT).mono ?_
      rintro e w2 ⟨rfl, hb2⟩
      have hR2 := hR1.below hb2
      clear hT hb2 hR1 hc0 hd0
      go_upto_region 6 with fail
      have hR3 := hR2.box (.cells #[.string x, .string z] 57 (0, 0))
      generalize w2.alloc (.cells #[.string x, .string z] 57) = w3 at *
      generalize w2.heap.size = B2 at *
      have hbz : w3.heap[B2]? = _ := hR3.get
      have hz0 : w3.cell? ⟨B2, 0, none⟩ = some (.string x) := bcell_of hbz 0 _ rfl
      have hR4 := hR3.drop
      have hbx2 : w3.heap[B]? = _ := hR4.get
      have hb0 : w3.cell? ⟨B, 0, none⟩ = some (.string ⟨#[]⟩) := bcell_of hbx2 0 _ rfl
      have hf0 : w3.frozen? ⟨B, 0, none⟩ = false := frozen_of_row w3 B 0 _ _ hbx2
      have hR5 : Rk w0 b d g0 r lst lim [(B, Bx x ⟨#[]⟩)] s (w3.setCell ⟨B, 0, none⟩ (.string x)) := Rk.setBox hR4 hw0 (by simp)
      clear hR2 hR3 hR4 hbz hbx2
      cases is with
      | false =>
        have hex : ex = 50 := HEX.out
        subst hex
        go_wp2
        go_meet
        rw [HRX.out]
        exact ⟨rfl, hR5⟩
      | true =>
        have hex : ex = 0 := HEX.out
        subst hex
        go_wp2
        go_meet
        rw [HRX.out]
        exact ⟨rfl, hR5⟩
  case rest =>
    obtain ⟨rfl, hR2⟩ := hcut
    clear hR1 hx
    by_cases hex : ex = 0
    · subst hex
      have hL := HLT.out wc _ { s with rest := rx } hR2 hns.2 hnl
      rw [show Hk.lit ({ s with rest := rx } : Hk.Rd).rest = (y, ry, ey) from HY.out] at hL
      have HL := Lib.hid hL
      clear hL hR2
      go_wp2_with fail
      refine HL.out.mono ?_
      rintro e w3 ⟨rfl, hR3⟩
      have hbx3 : w3.heap[B]? = _ := hR3.get
      have hb1 : w3.cell? ⟨B, 1, none⟩ = some (.string ⟨#[]⟩) := bcell_of hbx3 1 _ rfl
      have hf1 : w3.frozen? ⟨B, 1, none⟩ = false := frozen_of_row w3 B 1 _ _ hbx3
      have hR4 : Rk w0 b d g0 r lst lim [(B, Bx x y)] { s with rest := ry } (w3.setCell ⟨B, 1, none⟩ (.string y)) := Rk.setBox hR3 hw0 (by simp)
      clear hbx3 hR3
      go_upto_region 12 with fail
      clear hb1 hf1
      generalize w3.setCell ⟨B, 1, none⟩ (.string y) = w4 at *
      by_cases hey : ey = 0
      · subst hey
        have hsp := HSP.out
        rw [if_neg (by simp), if_neg (by simp)] at hsp
        have hwt : s.weight + Tk.wt (x, y) ≤ 70368744177664 := by
          have h1 := hBS.weight
          rw [hsp] at h1
          simp only [Hk.take] at h1
          omega
        have hf : Fits (x, y) := by unfold Tk.wt at hwt; exact ⟨by simp only at *; omega, by simp only at *; omega⟩
        have HSQ := Lib.hid hsp
        clear hsp HSP
        go_upto_if 49 with fail
        go_cut [] (fun wx => Rk w0 b d g0 r lst lim [(B, Bx x y)] { s with rest := ry, l := if add then Tk.add s.m (x, y) s.l else s.l } wx)
        case first =>
          cases add with
          | false =>
            go_wp2
            go_meet
            exact hR4
          | true =>
            have hc0 : w4.cell? ⟨r, 0, none⟩ = some (.pointer (some ⟨d, 0, none⟩)) := by obtain ⟨g, v, hT, hd, hr, _⟩ := hR4; exact bcell_of hr 0 _ rfl
            have hd0 : w4.cell? ⟨d, 0, none⟩ = some (.pointer (some ⟨b, 0, none⟩)) := by obtain ⟨g, v, hT, hd, hr, _⟩ := hR4; exact bcell_of hd 0 _ rfl
            have hb0 : w4.cell? ⟨B, 0, none⟩ = some (.string x) := bcell_of hR4.get 0 _ rfl
            have hb1 : w4.cell? ⟨B, 1, none⟩ = some (.string y) := bcell_of hR4.get 1 _ rfl
            go_wp2
            go_still_tail 9, (by kernel_rfl)
            have hR5 := hR4.drewN 1
            change wpList _ _ _ _ _ (w4.drewN 1)
            clear hR4 hc0 hd0 hb0 hb1
            generalize w4.drewN 1 = w5 at *
            obtain ⟨g, v, hT, hd, hr, ho, hne, hz, hO, hg, hx⟩ := hR5
            have HADD := Lib.hid (add_any w5 b g s.l s.m x y hT hB.tab hB.room hf)
            go_wp2_with fail
            refine HADD.out.mono ?_
            rintro e w6 ⟨rfl, g', hT6, hO6, hg6⟩
            have hR6 := Rk.tab (s := { s with rest := ry }) hT hd hr ho hne hz hO hg hx hT6 hO6 hg6
            clear hT hd hr ho hne hz hO hg hx hT6 hO6 hg6
            go_wp2
            go_meet
            exact hR6
        case rest =>
          have hR5 := hcut
          have hb0 : wc.cell? ⟨B, 0, none⟩ = some (.string x) := bcell_of hR5.get 0 _ rfl
          have hb1 : wc.cell? ⟨B, 1, none⟩ = some (.string y) := bcell_of hR5.get 1 _ rfl
          clear hR4 hcut
          go_wp2_with fail
          refine (take_any w0 wc b d g0 r lst lim _ _ hR5 x y hwt hB.out).mono ?_
          rintro e w6 ⟨rfl, hR6⟩
          go_wp2
          go_ret
          rw [HSQ.out]
          exact ⟨rfl, hR6.drop⟩
      · have he1 : ((ey : Int) == 0) = false := by rw [beq_eq_false_iff_ne]; omega
        have he2 : ((ey : Int) != 0) = true := by rw [bne_iff_ne]; omega
        have HEY := Lib.hid hey
        clear hey
        go_wp2
        go_ret
        have hsp := HSP.out
        rw [if_neg (by simp), if_pos HEY.out] at hsp
        rw [hsp]
        exact ⟨rfl, hR4.drop⟩
    · have he1 : ((ex : Int) == 0) = false := by rw [beq_eq_false_iff_ne]; omega
      have he2 : ((ex : Int) != 0) = true := by rw [bne_iff_ne]; omega
      have HEY := Lib.hid hex
      clear hex
      go_wp2
      go_ret
      have hsp := HSP.out
      rw [if_pos HEY.out] at hsp
      rw [hsp]
      exact ⟨rfl, hR2.drop⟩
end Go.Proofs.Ytmjibpjnhehnnaa
