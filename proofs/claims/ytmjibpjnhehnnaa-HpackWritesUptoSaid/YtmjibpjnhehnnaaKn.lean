/- A block is written: hpack's Encoder.Write and Encoder.Limit, walked whole. -/
import Derived.Test.YtmjibpjnhehnnaaKl
namespace Go.Proofs.Ytmjibpjnhehnnaa
open Go.RowKit
attribute [local go_sem ↓] Go.wp_at_zero Go.wp_at_succ

theorem min_nat (a b c : Nat) (h : min a b = c) (ts : Array TypeId) (t : TypeId) (w : World) : (Builtin.min_ ts t #[.int .i64 (a : Int), .int .i64 (b : Int)]).run Try.prog w = .ok (.int .i64 (c : Int)) w := by
  subst h
  simp [Builtin.min_, Builtin.min2]
  split <;> omega
/-- What an encoder's functions may change. -/
def ES (b e : Nat) (g : Option Nat) (k : Nat) : Prop := k = b ∨ k = e ∨ g = some k
/-- What they leave. -/
def EOut (w : World) (b e : Nat) (g : Option Nat) (was least m : Nat) (l : List Tk.Fd) (w' : World) : Prop :=
  ∃ g', Tab w' b g' l (Tk.sum l) m ∧ w'.heap[e]? = some (.cells (EB b was least) 65 (0, 0)) ∧ Only (ES b e g) w w' ∧ (g' = g ∨ ∃ k, g' = some k ∧ w.heap.size ≤ k)
set_option maxRecDepth 100000 in
theorem elimit_bad (w : World) (d : Nat) (n : Int) (h : n < 0 ∨ 4294967295 < n) : Calls Try.prog 17 #[.pointer (some ⟨d, 0, none⟩), .int .i64 n] w fun e w' => e = .returned (.int .i64 5) ∧ w = w' := by
  rcases h with h1 | h1
  · go_enter Try.func17, Try.ntmps17
    go_wp2
    go_ret
    exact ⟨rfl, rfl⟩
  · have h0 : ¬ n < 0 := by omega
    go_enter Try.func17, Try.ntmps17
    go_wp2
    go_ret
    exact ⟨rfl, rfl⟩
set_option maxRecDepth 100000 in
set_option maxHeartbeats 1000000 in
theorem elimit_good (w : World) (b e : Nat) (g : Option Nat) (was least m n k : Nat) (l : List Tk.Fd) (hT : Tab w b g l (Tk.sum l) m) (he : w.heap[e]? = some (.cells (EB b was least) 65 (0, 0))) (hs : Tk.sum l ≤ 65536) (hn : n ≤ 4294967295) (hk : min n 4096 = k) :
    Calls Try.prog 17 #[.pointer (some ⟨e, 0, none⟩), .int .i64 (n : Int)] w fun en w' => en = .returned (.int .i64 0) ∧ EOut w b e g was (min least k) k (Tk.shr k l) w' := by
  have h0 : ¬ (n : Int) < 0 := by omega
  have h1 : ¬ (4294967295 : Int) < (n : Int) := by omega
  have hmin : ∀ (ts : Array TypeId) (t : TypeId) (w : World), (Builtin.min_ ts t #[.int .i64 (n : Int), .int .i64 4096]).run Try.prog w = .ok (.int .i64 (k : Int)) w := fun ts t w => min_nat n 4096 k hk ts t w
  have hk2 : k ≤ 65536 := by omega
  have he0 : w.cell? ⟨e, 0, none⟩ = some (.pointer (some ⟨b, 0, none⟩)) := bcell_of he 0 _ rfl
  have HRS := Lib.hid (resize_good w b g l m k hT hs hk2)
  obtain ⟨csb, hb⟩ := hT.blkT
  have heb : e ≠ b := blk_type_ne he hb (by decide)
  have heg : ∀ k, g = some k → e ≠ k := fun k hk => by obtain ⟨cs, hc⟩ := hT.rowT k hk; exact blk_type_ne he hc (by decide)
  have HE := Lib.hid he
  clear hT he hb hk hn
  go_enter Try.func17, Try.ntmps17
  go_wp2_with fail
  refine HRS.out.mono ?_
  rintro en w2 ⟨rfl, hT2, hO2⟩
  have he2 : w2.heap[e]? = _ := hO2.block' HE.out (by rintro (h | h); exact heb h; exact heg e h rfl)
  obtain ⟨q, hq⟩ : ∃ q, min least k = q := ⟨_, rfl⟩
  have hmin2 := min_nat least k q hq
  have hc0 : w2.cell? ⟨e, 0, none⟩ = some (.pointer (some ⟨b, 0, none⟩)) := bcell_of he2 0 _ rfl
  have hc2 : w2.cell? ⟨e, 2, none⟩ = some (.int .i64 (least : Int)) := bcell_of he2 2 _ rfl
  have hf2 : w2.frozen? ⟨e, 2, none⟩ = false := frozen_of_row w2 e 2 _ _ he2
  have HRM := Lib.hid (fun n => show Calls Try.prog 30 #[.pointer (some ⟨e, 0, none⟩)] (w2.drewN n) (fun en w'' => en = .returned (.int .i64 (k : Int)) ∧ w2.drewN n = w'') from room_any (w2.drewN n) e b _ k g _ (hT2.below ⟨rfl, rfl, rfl, Nat.le_refl _, fun _ _ => rfl⟩) hc0)
  have HQ := Lib.hid hq
  have HE2 := Lib.hid he2
  have hw3 : ∀ n, EOut w b e g was q k (Tk.shr k l) ((w2.drewN n).setCell ⟨e, 2, none⟩ (.int .i64 (q : Int))) := by
    intro n
    have hO3 : Only (fun i => i = e) w2 ((w2.drewN n).setCell ⟨e, 2, none⟩ (.int .i64 (q : Int))) := Only.setCell (S := fun i => i = e) (p := ⟨e, 2, none⟩) ((Only.refl _ w2).drewN n) (.inr rfl) _
    refine ⟨g, hT2.only hO3 (fun h => heb h.symm) (fun k hk h => heg k hk h.symm), ?_, (hO2.mono (fun i _ h => h.elim .inl (fun h => .inr (.inr h)))).trans (hO3.mono (fun i _ h => .inr (.inl h))), .inl rfl⟩
    exact (heap_setCell_same (w2.drewN n) e 2 _ _ _ he2).trans rfl
  have HW3 := Lib.hid hw3
  clear hq hT2 hO2 he2 hw3
  go_wp2
  go_region_law (first | (go_simp; go_at_call 30; refine (HRM.out 1).mono ?_; rintro en w4 ⟨rfl, rfl⟩))
  all_goals
    go_wp2
    go_ret
    rw [HQ.out]
    exact ⟨rfl, HW3.out 1⟩

/-- Within the writing of a block. -/
def WRel (w0 : World) (b e : Nat) (g0 : Option Nat) (was least m bb : Nat) (A : Option Addr) (c n : Nat) (fs l : List Tk.Fd) (out : List Nat) (w : World) : Prop :=
  ∃ g v, Tab w b g l (Tk.sum l) m ∧ w.heap[e]? = some (.cells (EB b was least) 65 (0, 0)) ∧ Bld w w0.heap.size bb v out ∧ w.ownsRow 0 57 2 (.slice A n c) n (fcells fs) ∧
    (∀ k, (Value.slice A n c).ownBlock = some k → g ≠ some k) ∧ Only (ES b e g0) w0 w ∧ (g = g0 ∨ ∃ k, g = some k ∧ w0.heap.size ≤ k)
section
variable {w0 w w' : World} {b e was least m bb c n : Nat} {g0 : Option Nat} {A : Option Addr} {fs l : List Tk.Fd} {out : List Nat}
theorem WRel.below (h : WRel w0 b e g0 was least m bb A c n fs l out w) (hb : Below w.heap.size w w') : WRel w0 b e g0 was least m bb A c n fs l out w' := by
  obtain ⟨g, v, hT, he, hB, hr, hv, hO, hg⟩ := h
  have hk : Only (fun _ => False) w w' := Only.of_below _ hb
  exact ⟨g, v, hT.below hb, hk.block' he id, hB.only hk id (fun _ _ h => h), own_only hr hk (fun _ _ h => h), hv, hO.then hk (fun _ _ h => h) (fun _ _ h => h.elim), hg⟩
theorem WRel.write {B : Nat} {v : Value} {g : Option Nat} (hT : Tab w b g l (Tk.sum l) m) (he : w.heap[e]? = some (.cells (EB b was least) 65 (0, 0))) (hB : Bld w B bb v out) (hr : w.ownsRow 0 57 2 (.slice A n c) n (fcells fs))
    (hv : ∀ k, (Value.slice A n c).ownBlock = some k → g ≠ some k) (hO : Only (ES b e g0) w0 w) (hg : g = g0 ∨ ∃ k, g = some k ∧ w0.heap.size ≤ k) (hs : w0.heap.size = B) {out' : List Nat} (hW : Wrote w B bb v out' w') : WRel w0 b e g0 was least m bb A c n fs l out' w' := by
  subst hs
  obtain ⟨v', hB', hk⟩ := hW
  have hbl := hB.lt
  obtain ⟨_, ⟨p, _, hbb⟩, hrow⟩ := hB
  obtain ⟨csb, hb⟩ := hT.blkT
  have hsep : ∀ {k cs T}, w.heap[k]? = some (.cells cs T (0, 0)) → T ≠ 69 → T ≠ 5 → ¬ (k = bb ∨ v.ownBlock = some k) := by
    rintro k cs T hk h1 h2 (h | h)
    · exact blk_type_ne hk hbb h1 h
    · obtain ⟨_, cs', hc'⟩ := own_type hrow k h
      exact blk_type_ne hk hc' h2 rfl
  refine ⟨g, v', hT.only hk (hsep hb (by decide) (by decide)) ?_, hk.block' he (hsep he (by decide) (by decide)), hB', own_only hr hk ?_, hv, hO.then hk (fun _ _ h => h) ?_, hg⟩
  · intro k hgk
    obtain ⟨cs, hc⟩ := hT.rowT k hgk
    exact hsep hc (by decide) (by decide)
  · intro k hvk
    obtain ⟨_, cs, hc⟩ := own_type hr k hvk
    exact hsep hc (by decide) (by decide)
  · rintro i hi (h | h)
    · omega
    · have := (own_type hrow i h).1; omega
theorem WRel.field {g : Option Nat} {v : Value} {l' : List Tk.Fd} (hT : Tab w b g l (Tk.sum l) m) (he : w.heap[e]? = some (.cells (EB b was least) 65 (0, 0))) (hB : Bld w w0.heap.size bb v out) (hr : w.ownsRow 0 57 2 (.slice A n c) n (fcells fs))
    (hv : ∀ k, (Value.slice A n c).ownBlock = some k → g ≠ some k) (hO : Only (ES b e g0) w0 w) (hg : g = g0 ∨ ∃ k, g = some k ∧ w0.heap.size ≤ k) (hA : Added w b g l' m w') : WRel w0 b e g0 was least m bb A c n fs l' out w' := by
  obtain ⟨g', hT', hk, hg'⟩ := hA
  have hbl := hB.lt
  have hB0 := hB
  obtain ⟨_, ⟨p, _, hbb⟩, hrow⟩ := hB
  obtain ⟨csb, hb⟩ := hT.blkT
  have hsep : ∀ {k cs T}, w.heap[k]? = some (.cells cs T (0, 0)) → T ≠ 101 → T ≠ 57 → ¬ RS b g k := by
    rintro k cs T hk h1 h2 (h | h)
    · exact blk_type_ne hk hb h1 h
    · obtain ⟨cs', hc'⟩ := hT.rowT k h
      exact blk_type_ne hk hc' h2 rfl
  refine ⟨g', v, hT', hk.block' he (hsep he (by decide) (by decide)), hB0.only hk (hsep hbb (by decide) (by decide)) ?_, own_only hr hk ?_, ?_, hO.then hk (fun _ _ h => h) ?_, ?_⟩
  · intro k hvk
    obtain ⟨_, cs, hc⟩ := own_type hrow k hvk
    exact hsep hc (by decide) (by decide)
  · rintro k hvk (h | h)
    · obtain ⟨_, cs, hc⟩ := own_type hr k hvk
      exact blk_type_ne hc hb (by decide) h
    · exact hv k hvk h
  · intro k hvk h
    rcases hg' with h2 | ⟨k', h2, hle⟩
    · exact hv k hvk (h2 ▸ h)
    · rw [h] at h2; injection h2 with h2; have := (hr.lt k hvk).2; omega
  · rintro i hi (h | h)
    · exact .inl h
    · rcases hg with h2 | ⟨k', h2, hle⟩
      · exact .inr (.inr (h2 ▸ h))
      · rw [h] at h2; injection h2 with h2; omega
  · rcases hg' with h2 | ⟨k', h2, hle⟩
    · rw [h2]; exact hg
    · exact .inr ⟨k', h2, Nat.le_trans hO.size hle⟩
theorem WRel.set {was' least' i : Nat} {u : Value} (h : WRel w0 b e g0 was least m bb A c n fs l out w) (hs : (EB b was least).setIfInBounds i u = EB b was' least') : WRel w0 b e g0 was' least' m bb A c n fs l out (w.setCell ⟨e, i, none⟩ u) := by
  obtain ⟨g, v, hT, he, hB, hr, hv, hO, hg⟩ := h
  have hk : Only (fun k => k = e) w (w.setCell ⟨e, i, none⟩ u) := Only.setCell (S := fun k => k = e) (p := ⟨e, i, none⟩) (Only.refl _ w) (.inr rfl) u
  obtain ⟨csb, hb⟩ := hT.blkT
  have hB0 := hB
  obtain ⟨_, ⟨p, _, hbb⟩, hrow⟩ := hB
  refine ⟨g, v, hT.only hk (blk_type_ne hb he (by decide)) ?_, (heap_setCell_same w e i _ _ u he).trans (by rw [hs]), hB0.only hk (blk_type_ne hbb he (by decide)) ?_, own_only hr hk ?_, hv, hO.setCell (.inr (.inr (.inl rfl))) u, hg⟩
  · intro k hgk h
    obtain ⟨cs, hc⟩ := hT.rowT k hgk
    exact blk_type_ne hc he (by decide) h
  · intro k hvk h
    obtain ⟨_, cs, hc⟩ := own_type hrow k hvk
    exact blk_type_ne hc he (by decide) h
  · intro k hvk h
    obtain ⟨_, cs, hc⟩ := own_type hr k hvk
    exact blk_type_ne hc he (by decide) h
theorem WRel.cells (h : WRel w0 b e g0 was least m bb A c n fs l out w) : w.heap[e]? = some (.cells (EB b was least) 65 (0, 0)) := by
  obtain ⟨g, v, hT, he, _⟩ := h
  exact he
/-- A text is written behind. -/
theorem WRel.wstr (h : WRel w0 b e g0 was least m bb A c n fs l out w) (s : List Nat) (hs : Hf.Byte s) (hl : out.length + s.length ≤ 140737488355328) :
    Calls Try.prog 31 #[.pointer (some ⟨bb, 0, none⟩), .string (strN s)] w fun en w' => en = .returned (.tuple #[.int .i64 (s.length : Int), .nilIface]) ∧ WRel w0 b e g0 was least m bb A c n fs l (out ++ s) w' := by
  obtain ⟨g, v, hT, he, hB, hr, hv, hO, hg⟩ := h
  refine (wstr_any w w0.heap.size bb v out (strN s) hB (by rw [strN_size]; exact hl)).mono ?_
  rintro en w' ⟨rfl, hW⟩
  rw [nats_strN s hs] at hW
  exact ⟨by rw [strN_size], WRel.write hT he hB hr hv hO hg rfl hW⟩
theorem WRel.enf (h : WRel w0 b e g0 was least m bb A c n fs l out w) (x y : ByteArray) (hs : Tk.sum l ≤ m) (hm : m ≤ 65536) (hsh : Hk.Short (x, y)) :
    Calls Try.prog 33 #[.pointer (some ⟨e, 0, none⟩), .agg #[.string x, .string y]] w fun en w' => en = .returned (.string (strN (Hk.one m l (x, y)).1)) ∧ WRel w0 b e g0 was least m bb A c n fs (Hk.one m l (x, y)).2 out w' := by
  obtain ⟨g, v, hT, he, hB, hr, hv, hO, hg⟩ := h
  refine (enfield_any w b e g was least m l x y hT he hs hm hsh).mono ?_
  rintro en w' ⟨rfl, hA⟩
  exact ⟨rfl, WRel.field hT he hB hr hv hO hg hA⟩
theorem WRel.room (h : WRel w0 b e g0 was least m bb A c n fs l out w) : Calls Try.prog 30 #[.pointer (some ⟨e, 0, none⟩)] w fun en w' => en = .returned (.int .i64 (m : Int)) ∧ w = w' := by
  obtain ⟨g, v, hT, he, _⟩ := h
  exact room_any w e b _ m g l hT (bcell_of he 0 _ rfl)
end
end Go.Proofs.Ytmjibpjnhehnnaa
