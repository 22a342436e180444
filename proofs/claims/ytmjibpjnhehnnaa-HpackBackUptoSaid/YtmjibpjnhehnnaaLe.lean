/- HpackLess, walked: a block that is written again is the same from then on, and hardly longer. -/
import Derived.Test.YtmjibpjnhehnnaaKs
import Derived.Test.YtmjibpjnhehnnaaKt
namespace Go.Proofs.Ytmjibpjnhehnnaa
open Go.RowKit
attribute [local go_sem ↓] Go.wp_at_zero Go.wp_at_succ

/-- An encoder with its table. -/
def ER (w0 : World) (be e was least me : Nat) (le : List Tk.Fd) (w : World) : Prop :=
  ∃ ge, Tab w be ge le (Tk.sum le) me ∧ w.heap[e]? = some (.cells (EB be was least) 65 (0, 0)) ∧ (w0.heap.size ≤ be ∧ w0.heap.size ≤ e) ∧ (∀ k, ge = some k → w0.heap.size ≤ k) ∧ Below w0.heap.size w0 w
section
variable {w0 w w' : World} {be e was least me : Nat} {le : List Tk.Fd}
theorem ER.below (h : ER w0 be e was least me le w) (hb : Below w.heap.size w w') : ER w0 be e was least me le w' := by
  obtain ⟨ge, hT, he, hz, hge, hB⟩ := h
  exact ⟨ge, hT.below hb, (hb.block e (heap_lt he)).trans he, hz, hge, hB.trans (hb.mono hB.size)⟩
theorem ER.old (h : ER w0 be e was least me le w) : Below w0.heap.size w0 w := by
  obtain ⟨ge, hT, he, hz, hge, hB⟩ := h
  exact hB
theorem own_zero {B n cells : Nat} {t : TypeId} {v : Value} {cs : List Value} (h : w.ownsRow B t cells v n cs) : w.ownsRow 0 t cells v n cs := by
  refine ⟨h.1, ?_⟩
  rcases h.2 with h2 | ⟨g, cap, cur, hv, _, r⟩
  · exact .inl h2
  · exact .inr ⟨g, cap, cur, hv, Nat.zero_le _, r⟩
theorem er_write {g cap n : Nat} {fs : List Tk.Fd} (h : ER w0 be e was least me le w) (hL : Lent w' w.heap.size g cap fs) (hb : Below w.heap.size w w') (hnn : fs.length = n)
    (hs : Tk.sum le ≤ me) (hm : me ≤ 65536) (hwas : was ≤ 65536) (hle : least ≤ 65536) (hsh : ∀ f ∈ fs, Hk.Short f) (hn : fs.length ≤ 1099511627776) (hlen : Hk.size fs + 12 ≤ 140737488355328) :
    Calls Try.prog 14 #[.pointer (some ⟨e, 0, none⟩), .slice (some ⟨g, 0, none⟩) n cap] w' fun en w2 => en = .returned (.string (strN (Hk.write me was least fs le).1)) ∧ ER w0 be e me me me (Hk.write me was least fs le).2 w2 := by
  subst hnn
  obtain ⟨ge, hT, he, hz, hge, hB⟩ := h
  have hlt := hT.lt
  refine (write_any w' be e ge was least me le (some ⟨g, 0, none⟩) cap fs (hT.below hb) ((hb.block e (heap_lt he)).trans he) (own_zero hL.own) (fun k hk hg => ?_) hs hm hwas hle hsh hn hlen).mono ?_
  · have hk' : g = k := by simpa [Value.ownBlock] using hk
    have := (hlt.2 k hg).1
    have := hL.cap.1
    omega
  · rintro en w2 ⟨rfl, ge', hT', he', ho, hg'⟩
    have hB' : Below w0.heap.size w0 w' := hB.trans (hb.mono hB.size)
    refine ⟨rfl, ge', hT', he', hz, ?_, only_below hB' ho ?_ hB'.size⟩
    · intro k hk
      rcases hg' with e1 | ⟨k', e1, hle⟩
      · exact hge k (e1 ▸ hk)
      · rw [hk] at e1; injection e1 with e1; have := hB'.size; omega
    · rintro k (h | h | h)
      · omega
      · omega
      · exact hge k h
end
theorem ER.new {w w1 : World} {e : Nat} (hT : Tab w1 (w.heap.size + 1) none [] 0 4096) (he : w1.heap[e]? = some (.cells (EB (w.heap.size + 1) 4096 4096) 65 (0, 0))) (he1 : w.heap.size + 1 < e) (hb1 : Below w.heap.size w w1) : ER w (w.heap.size + 1) e 4096 4096 4096 [] w1 :=
  ⟨none, hT, he, ⟨by omega, by omega⟩, (fun k h => by cases h), hb1⟩
theorem size_strN (l : List Nat) : (strN l).size = l.length := strN_size l
set_option maxRecDepth 100000 in
set_option maxHeartbeats 8000000 in
theorem less_true (w : World) (a : Option Addr) (n c : Nat) (fs : List Tk.Fd) (h : FRow w a n fs) (hnil : a = none → c = 0) (hn : n ≤ 1048576) (hsum : Tk.sum fs ≤ 33554432) (hsz : Hk.size fs ≤ 16777216) (hsh : ∀ f ∈ fs, Hk.Short f) :
    Calls Try.prog 4 #[.slice a n c] w fun e w' => e = .returned (.bool true) ∧ Below w.heap.size w w' := by
  have hnn := h.1
  have HN := Lib.hid hnil
  have HSH := Lib.hid hsh
  have HNN := Lib.hid hnn
  have HA := Lib.hid (Hk.write_again fs)
  clear hnil hsh hnn
  go_enter Try.func4, Try.ntmps4
  go_wp2_with fail
  refine (lweight_any w a n c fs h (by omega)).mono ?_
  rintro en w1 ⟨rfl, hb1⟩
  have h1 := h.keep hb1
  clear h
  have hbb : Below w.heap.size w w1 := hb1
  clear hb1
  by_cases h2 : 2000 < Tk.sum fs
  · have h2I : (2000 : Int) < (Tk.sum fs : Int) := by omega
    go_wp2_with fail
    refine (awake_true w1).mono ?_
    rintro en w2 ⟨rfl, hb2⟩
    go_wp2
    go_ret
    exact ⟨rfl, hbb.trans (hb2.mono hbb.size)⟩
  · have h2I : ¬ (2000 : Int) < (Tk.sum fs : Int) := by omega
    have hA := HA.out (by omega) HSH.out
    obtain ⟨hA1, hA2⟩ := hA
    have hlA : (Hk.write 4096 4096 4096 fs []).1.length ≤ 16777216 + 12 := by
      have := Hk.ones_len 4096 fs [] (Nat.zero_le _) (by omega) HSH.out
      unfold Hk.write
      rw [List.length_append]
      have h0 : (Hk.head 4096 4096 4096).length ≤ 12 := Hk.head_len 4096 4096 4096 (by omega) (by omega)
      omega
    have HA1 := Lib.hid hA1
    have HA2 := Lib.hid hA2
    have HLA := Lib.hid hlA
    clear hA1 hA2 hlA
    go_wp2_with fail
    refine (newEnc_any w1).mono ?_
    rintro en w2 ⟨e, rfl, he1, hT1, hE1, hb2⟩
    have hER := ER.new hT1 hE1 he1 hb2
    have hf2 := h1.keep hb2
    have H1 := Lib.hid h1
    clear hT1 hE1 he1 hb2 h1
    generalize w1.heap.size + 1 = be at *
    go_wp2_with fail
    refine (lent_any w2 a n c fs hf2 HN.out (by omega)).mono ?_
    rintro en w3 ⟨g3, cap3, rfl, hL3, hb3⟩
    have HW3 := Lib.hid (er_write hER hL3 hb3 HNN.out (Nat.zero_le _) (by omega) (by omega) (by omega) HSH.out (by have := HNN.out; omega) (by omega))
    have hf3 := hf2.keep hb3
    clear hf2 hER hL3 hb3
    go_wp2_with fail
    refine HW3.out.mono ?_
    rintro en w4 ⟨rfl, hER4⟩
    have hf4 := H1.out.keep hER4.old
    have hs4 : Tk.sum (Hk.write 4096 4096 4096 fs []).2 ≤ 4096 := Hk.ones_sum fs (Nat.zero_le _)
    have HS4 := Lib.hid hs4
    clear hf3 HW3 hs4
    go_wp2_with fail
    refine (lent_any w4 a n c fs hf4 HN.out (by omega)).mono ?_
    rintro en w5 ⟨g5, cap5, rfl, hL5, hb5⟩
    have HW5 := Lib.hid (er_write hER4 hL5 hb5 HNN.out HS4.out (by omega) (by omega) (by omega) HSH.out (by have := HNN.out; omega) (by omega))
    clear hf4 hER4 hL5 hb5
    go_wp2_with fail
    refine HW5.out.mono ?_
    rintro en w6 ⟨rfl, hER6⟩
    rw [HA2.out] at hER6
    have hf6 := H1.out.keep hER6.old
    clear HW5
    go_wp2_with fail
    refine (lent_any w6 a n c fs hf6 HN.out (by omega)).mono ?_
    rintro en w7 ⟨g7, cap7, rfl, hL7, hb7⟩
    have HW7 := Lib.hid (er_write hER6 hL7 hb7 HNN.out HS4.out (by omega) (by omega) (by omega) HSH.out (by have := HNN.out; omega) (by omega))
    clear hf6 hER6 hL7 hb7
    go_wp2_with fail
    refine HW7.out.mono ?_
    rintro en w8 ⟨rfl, hER8⟩
    clear HW7
    go_wp2_with fail
    refine (awake_true w8).mono ?_
    rintro en w9 ⟨rfl, hb9⟩
    have hER9 := hER8.below hb9
    have hlen : ((Hk.write 4096 4096 4096 fs (Hk.write 4096 4096 4096 fs []).2).1.length : Int) ≤ ((Hk.write 4096 4096 4096 fs []).1.length : Int) + (n : Int) := by
      have e1 := HA1.out
      have e2 := HNN.out
      omega
    have hwr : IntKind.i64.wrap (((Hk.write 4096 4096 4096 fs []).1.length : Int) + (n : Int)) = ((Hk.write 4096 4096 4096 fs []).1.length : Int) + (n : Int) := by
      have e1 := HLA.out
      exact IntWalk.i64_in _ (by omega)
    clear hER8 hb9
    have hz1 : (strN (Hk.write 4096 4096 4096 fs []).1).size = (Hk.write 4096 4096 4096 fs []).1.length := size_strN _
    have hz2 : (strN (Hk.write 4096 4096 4096 fs (Hk.write 4096 4096 4096 fs []).2).1).size = (Hk.write 4096 4096 4096 fs (Hk.write 4096 4096 4096 fs []).2).1.length := size_strN _
    go_wp2
    go_ret
    exact ⟨rfl, hbb.trans (hER9.old.mono hbb.size)⟩
end Go.Proofs.Ytmjibpjnhehnnaa
