/- hpack's decoder in memory; strings.Clone, the table's room, and the small functions of a reading, walked. -/
import Derived.Test.YtmjibpjnhehnnaaBu
import Derived.Test.YtmjibpjnhehnnaaKd
import Derived.Test.YtmjibpjnhehnnaaTv
import Derived.Test.YtmjibpjnhehnnaaPh
import Derived.Deep.RegionHeld3
import Derived.Deep.RegionLaw
import Derived.Deep.DeepCutAuto
namespace Go.Proofs.Ytmjibpjnhehnnaa
open Go.RowKit
attribute [local go_sem ↓] Go.wp_at_zero Go.wp_at_succ

set_option maxRecDepth 100000 in
theorem clone_any (s : ByteArray) (w : World) (hs : s.size ≤ 281474976710656) : Calls Try.prog 78 #[.string s] w fun e w' => e = .returned (.string s) ∧ Below w.heap.size w w' := by
  go_enter Try.func78, Try.ntmps78
  go_wp2_with fail
  refine (sh_stringslite_Clone s w hs).mono ?_
  rintro e w2 ⟨rfl, hb⟩
  go_wp2
  go_ret
  exact ⟨rfl, hb⟩

theorem Tab.blkT {w : World} {b s m : Nat} {g : Option Nat} {l : List Tk.Fd} (h : Tab w b g l s m) : ∃ cs, w.heap[b]? = some (.cells cs 101 (0, 0)) := by
  obtain ⟨v, L, f, _, hr⟩ := h
  exact ⟨_, hr.blk⟩
theorem Tab.rowT {w : World} {b s m : Nat} {g : Option Nat} {l : List Tk.Fd} (h : Tab w b g l s m) (k : Nat) (hk : g = some k) : ∃ cs, w.heap[k]? = some (.cells cs 57 (0, 0)) := by
  obtain ⟨v, L, f, hv, hr⟩ := h
  rw [hk] at hv
  rcases hr.row with ⟨rfl, _⟩ | ⟨g', F, hne, rfl, _, ⟨c, hc, _⟩, _⟩
  · simp [Value.ownBlock] at hv
  · simp [Value.ownBlock] at hv
    subst hv
    exact ⟨c, hc⟩

/-- A decoder's cells, a reading's cells. -/
def DB (b lst lim br : Nat) : Array Value := #[.pointer (some ⟨b, 0, none⟩), .int .i64 (lst : Int), .int .i64 (lim : Int), .int .i64 (br : Int)]
def RB (d : Nat) (s : Hk.Rd) (v : Value) : Array Value := #[.pointer (some ⟨d, 0, none⟩), .string (strN s.rest), .bool s.begun, .int .i64 (s.weight : Int), v]
/-- What a decoder's functions may change. -/
def DS (b d : Nat) (g : Option Nat) (k : Nat) : Prop := k = b ∨ k = d ∨ g = some k
/-- Blocks that stand apart. -/
def Boxes (w : World) (b d r : Nat) (g : Option Nat) (v : Value) (bx : List (Nat × Obj)) : Prop := ∀ p ∈ bx, w.heap[p.1]? = some p.2 ∧ p.1 ≠ b ∧ p.1 ≠ d ∧ p.1 ≠ r ∧ g ≠ some p.1 ∧ v.ownBlock ≠ some p.1
theorem Boxes.keep {w w' : World} {b d r : Nat} {g g' : Option Nat} {v v' : Value} {bx : List (Nat × Obj)} {S : Nat → Prop} (h : Boxes w b d r g v bx) (ho : Only S w w') (hS : ∀ k, S k → k = b ∨ k = d ∨ k = r ∨ g = some k ∨ v.ownBlock = some k)
    (hg : ∀ k, g' = some k → g = some k ∨ w.heap.size ≤ k) (hv : ∀ k, v'.ownBlock = some k → v.ownBlock = some k ∨ w.heap.size ≤ k) : Boxes w' b d r g' v' bx := by
  intro p hp
  obtain ⟨h1, h2, h3, h4, h5, h6⟩ := h p hp
  have hlt := heap_lt h1
  refine ⟨ho.block' h1 ?_, h2, h3, h4, ?_, ?_⟩
  · intro hs
    rcases hS _ hs with e | e | e | e | e
    · exact h2 e
    · exact h3 e
    · exact h4 e
    · exact h5 e
    · exact h6 e
  · intro e
    rcases hg _ e with e | e
    · exact h5 e
    · omega
  · intro e
    rcases hv _ e with e | e
    · exact h6 e
    · omega
/-- A reading under way: the decoder d with the table b, the reading r, its state s; since w0. -/
def Rk (w0 : World) (b d : Nat) (g0 : Option Nat) (r lst lim : Nat) (bx : List (Nat × Obj)) (s : Hk.Rd) (w : World) : Prop :=
  ∃ g v, Tab w b g s.l (Tk.sum s.l) s.m ∧ w.heap[d]? = some (.cells (DB b lst lim 0) 55 (0, 0)) ∧ w.heap[r]? = some (.cells (RB d s v) 61 (0, 0)) ∧
    w.ownsRow (r + 1) 57 2 v s.out.length (fcells s.out) ∧ (∀ k, g = some k → v.ownBlock ≠ some k) ∧ w0.heap.size ≤ r ∧ Only (DS b d g0) w0 w ∧ (g = g0 ∨ ∃ k, g = some k ∧ w0.heap.size ≤ k) ∧ Boxes w b d r g v bx
section
variable {w0 w w' : World} {b d r lst lim : Nat} {g g0 : Option Nat} {s : Hk.Rd} {v : Value} {bx : List (Nat × Obj)}
theorem Rk.below (h : Rk w0 b d g0 r lst lim bx s w) (hb : Below w.heap.size w w') : Rk w0 b d g0 r lst lim bx s w' := by
  obtain ⟨g, v, hT, hd, hr, ho, hne, hz, hO, hg, hx⟩ := h
  exact ⟨g, v, hT.below hb, (hb.block d (heap_lt hd)).trans hd, (hb.block r (heap_lt hr)).trans hr, own_only ho (Only.of_below (fun _ => False) hb) (fun _ _ h => h), hne, hz, hO.then (Only.of_below (fun _ => False) hb) (fun _ _ h => h) (fun _ _ h => h.elim), hg, hx.keep (Only.of_below (fun _ => False) hb) (fun _ h => h.elim) (fun _ h => .inl h) (fun _ h => .inl h)⟩
theorem Rk.drewN (h : Rk w0 b d g0 r lst lim bx s w) (n : Nat) : Rk w0 b d g0 r lst lim bx s (w.drewN n) := h.below ⟨rfl, rfl, rfl, Nat.le_refl _, fun _ _ => rfl⟩
theorem Rk.lt (h : Rk w0 b d g0 r lst lim bx s w) : b < w.heap.size ∧ d < w.heap.size ∧ r < w.heap.size := by
  obtain ⟨g, v, hT, hd, hr, _⟩ := h
  exact ⟨hT.lt.1, heap_lt hd, heap_lt hr⟩
/-- After the table has turned. -/
theorem Rk.tab {g' : Option Nat} {l' : List Tk.Fd} {m' : Nat} (hT : Tab w b g s.l (Tk.sum s.l) s.m) (hd : w.heap[d]? = some (.cells (DB b lst lim 0) 55 (0, 0))) (hr : w.heap[r]? = some (.cells (RB d s v) 61 (0, 0)))
    (ho : w.ownsRow (r + 1) 57 2 v s.out.length (fcells s.out)) (hne : ∀ k, g = some k → v.ownBlock ≠ some k) (hz : w0.heap.size ≤ r) (hO : Only (DS b d g0) w0 w) (hg : g = g0 ∨ ∃ k, g = some k ∧ w0.heap.size ≤ k) (hx : Boxes w b d r g v bx)
    (hT' : Tab w' b g' l' (Tk.sum l') m') (hk : Only (RS b g) w w') (hg' : g' = g ∨ ∃ k, g' = some k ∧ w.heap.size ≤ k) : Rk w0 b d g0 r lst lim bx { s with l := l', m := m' } w' := by
  obtain ⟨csb, hb⟩ := hT.blkT
  have hsep : ∀ {k cs T}, w.heap[k]? = some (.cells cs T (0, 0)) → T ≠ 101 → T ≠ 57 → ¬ RS b g k := by
    rintro k cs T hk h1 h2 (e | e)
    · exact blk_type_ne hk hb h1 e
    · obtain ⟨cs', hc'⟩ := hT.rowT k e
      exact blk_type_ne hk hc' h2 rfl
  refine ⟨g', v, hT', hk.block' hd (hsep hd (by decide) (by decide)), hk.block' hr (hsep hr (by decide) (by decide)), own_only ho hk ?_, ?_, hz, hO.then hk (fun _ _ h => h) ?_, ?_, hx.keep hk (fun k h => h.elim .inl (fun h => .inr (.inr (.inr (.inl h))))) (fun k h => ?_) (fun _ h => .inl h)⟩
  · rintro k hv (e | e)
    · obtain ⟨_, cs, hc⟩ := own_type ho k hv
      exact blk_type_ne hc hb (by decide) e
    · exact hne k e hv
  · intro k hk'
    rcases hg' with e | ⟨k', e, hle⟩
    · exact hne k (e ▸ hk')
    · intro hv
      rw [hk'] at e
      injection e with e
      have := (ho.lt k hv).2
      omega
  · rintro i hi (e | e)
    · exact .inl e
    · rcases hg with h | ⟨k', h, hle⟩
      · exact .inr (.inr (h ▸ e))
      · rw [e] at h; injection h with h; omega
  · rcases hg' with e | ⟨k', e, hle⟩
    · rw [e]; exact hg
    · exact .inr ⟨k', e, Nat.le_trans hO.size hle⟩
  · rcases hg' with e | ⟨k', e, hle⟩
    · exact .inl (e ▸ h)
    · rw [h] at e; injection e with e; exact .inr (by omega)
/-- After the reading's own cells, or what it keeps, have turned. -/
theorem Rk.upd {s' : Hk.Rd} {v' : Value} (hT : Tab w b g s.l (Tk.sum s.l) s.m) (hd : w.heap[d]? = some (.cells (DB b lst lim 0) 55 (0, 0))) (hr : w.heap[r]? = some (.cells (RB d s v) 61 (0, 0)))
    (ho : w.ownsRow (r + 1) 57 2 v s.out.length (fcells s.out)) (hne : ∀ k, g = some k → v.ownBlock ≠ some k) (hz : w0.heap.size ≤ r) (hO : Only (DS b d g0) w0 w) (hg : g = g0 ∨ ∃ k, g = some k ∧ w0.heap.size ≤ k) (hx : Boxes w b d r g v bx)
    (hl : s'.l = s.l) (hm : s'.m = s.m) (hr' : w'.heap[r]? = some (.cells (RB d s' v') 61 (0, 0))) (ho' : w'.ownsRow (r + 1) 57 2 v' s'.out.length (fcells s'.out)) (hk : Only (fun k => k = r ∨ v.ownBlock = some k) w w')
    (hv' : ∀ k, v'.ownBlock = some k → v.ownBlock = some k ∨ w.heap.size ≤ k) : Rk w0 b d g0 r lst lim bx s' w' := by
  obtain ⟨csb, hb⟩ := hT.blkT
  have hsep : ∀ {k cs T}, w.heap[k]? = some (.cells cs T (0, 0)) → T ≠ 61 → T ≠ 57 → ¬ (k = r ∨ v.ownBlock = some k) := by
    rintro k cs T hk h1 h2 (e | e)
    · exact blk_type_ne hk hr h1 e
    · obtain ⟨_, cs', hc'⟩ := own_type ho k e
      exact blk_type_ne hk hc' h2 rfl
  have hT' : Tab w' b g s'.l (Tk.sum s'.l) s'.m := by
    rw [hl, hm]
    refine hT.only hk (hsep hb (by decide) (by decide)) ?_
    rintro k hgk (e | e)
    · obtain ⟨cs, hc⟩ := hT.rowT k hgk
      exact blk_type_ne hc hr (by decide) e
    · exact hne k hgk e
  refine ⟨g, v', hT', hk.block' hd (hsep hd (by decide) (by decide)), hr', ho', ?_, hz, hO.then hk (fun _ _ h => h) ?_, hg, hx.keep hk (fun k h => h.elim (fun h => .inr (.inr (.inl h))) (fun h => .inr (.inr (.inr (.inr h))))) (fun _ h => .inl h) hv'⟩
  · intro k hgk hvk
    rcases hv' k hvk with e | e
    · exact hne k hgk e
    · have := (hT.lt.2 k hgk).1; omega
  · rintro i hi (e | e)
    · omega
    · have := (ho.lt i e).1; omega
/-- A new block stands apart. -/
theorem Rk.box (h : Rk w0 b d g0 r lst lim bx s w) (ob : Obj) : Rk w0 b d g0 r lst lim ((w.heap.size, ob) :: bx) s (w.alloc ob) := by
  have h2 := h.below (w' := w.alloc ob) ((Below.refl _ _).alloc (Nat.le_refl _) ob)
  have hl := h.lt
  obtain ⟨g, v, hT, hd, hr, ho, hne, hz, hO, hg, hx⟩ := h
  have hb : Below w.heap.size w (w.alloc ob) := (Below.refl _ _).alloc (Nat.le_refl _) ob
  refine ⟨g, v, hT.below hb, (hb.block d (heap_lt hd)).trans hd, (hb.block r (heap_lt hr)).trans hr, own_only ho (Only.of_below (fun _ => False) hb) (fun _ _ h => h), hne, hz, hO.then (Only.of_below (fun _ => False) hb) (fun _ _ h => h) (fun _ _ h => h.elim), hg, ?_⟩
  intro p hp
  rcases List.mem_cons.1 hp with rfl | hp
  · refine ⟨heap_alloc_new w ob, by simp only; omega, by simp only; omega, by simp only; omega, ?_, ?_⟩
    · intro e; have := (hT.lt.2 _ e).1; simp only at this; omega
    · intro e; have := (ho.lt _ e).2; simp only at this; omega
  · exact hx.keep (Only.of_below (fun _ => False) hb) (fun _ h => h.elim) (fun _ h => .inl h) (fun _ h => .inl h) p hp
/-- A store into a block that stands apart. -/
theorem Rk.setBox {B i : Nat} {cs : Array Value} {T : TypeId} {u : Value} (h : Rk w0 b d g0 r lst lim ((B, .cells cs T (0, 0)) :: bx) s w) (hB : w0.heap.size ≤ B) (hn : ∀ p ∈ bx, p.1 ≠ B) : Rk w0 b d g0 r lst lim ((B, .cells (cs.setIfInBounds i u) T (0, 0)) :: bx) s (w.setCell ⟨B, i, none⟩ u) := by
  obtain ⟨g, v, hT, hd, hr, ho, hne, hz, hO, hg, hx⟩ := h
  obtain ⟨h1, h2, h3, h4, h5, h6⟩ := hx _ (List.mem_cons_self ..)
  simp only at h1 h2 h3 h4 h5 h6
  have hk : Only (fun k => k = B) w (w.setCell ⟨B, i, none⟩ u) := Only.setCell (S := fun k => k = B) (p := ⟨B, i, none⟩) (Only.refl _ w) (.inr rfl) u
  refine ⟨g, v, hT.only hk (fun e => h2 e.symm) (fun k hk e => h5 (e ▸ hk)), hk.block' hd (fun e => h3 e.symm), hk.block' hr (fun e => h4 e.symm), own_only ho hk (fun k hk e => h6 (e ▸ hk)), hne, hz, hO.setCell (.inl hB) u, hg, ?_⟩
  intro p hp
  rcases List.mem_cons.1 hp with rfl | hp
  · exact ⟨heap_setCell_same w B i _ _ u h1, h2, h3, h4, h5, h6⟩
  · obtain ⟨e1, e2⟩ := hx p (List.mem_cons_of_mem _ hp)
    exact ⟨hk.block' e1 (hn p hp), e2⟩
theorem Rk.get {p : Nat × Obj} (h : Rk w0 b d g0 r lst lim (p :: bx) s w) : w.heap[p.1]? = some p.2 := by
  obtain ⟨g, v, hT, hd, hr, ho, hne, hz, hO, hg, hx⟩ := h
  exact (hx p (List.mem_cons_self ..)).1
theorem Rk.drop {p : Nat × Obj} (h : Rk w0 b d g0 r lst lim (p :: bx) s w) : Rk w0 b d g0 r lst lim bx s w := by
  obtain ⟨g, v, hT, hd, hr, ho, hne, hz, hO, hg, hx⟩ := h
  exact ⟨g, v, hT, hd, hr, ho, hne, hz, hO, hg, fun q hq => hx q (List.mem_cons_of_mem _ hq)⟩
/-- A store into one of its cells. -/
theorem Rk.set {s' : Hk.Rd} {i : Nat} {u : Value} (hT : Tab w b g s.l (Tk.sum s.l) s.m) (hd : w.heap[d]? = some (.cells (DB b lst lim 0) 55 (0, 0))) (hr : w.heap[r]? = some (.cells (RB d s v) 61 (0, 0)))
    (ho : w.ownsRow (r + 1) 57 2 v s.out.length (fcells s.out)) (hne : ∀ k, g = some k → v.ownBlock ≠ some k) (hz : w0.heap.size ≤ r) (hO : Only (DS b d g0) w0 w) (hg : g = g0 ∨ ∃ k, g = some k ∧ w0.heap.size ≤ k) (hx : Boxes w b d r g v bx)
    (hs : (RB d s v).setIfInBounds i u = RB d s' v) (hl : s'.l = s.l) (hm : s'.m = s.m) (hout : s'.out = s.out) : Rk w0 b d g0 r lst lim bx s' (w.setCell ⟨r, i, none⟩ u) := by
  have hk : Only (fun k => k = r) w (w.setCell ⟨r, i, none⟩ u) := Only.setCell (S := fun k => k = r) (p := ⟨r, i, none⟩) (Only.refl _ w) (.inr rfl) u
  refine Rk.upd hT hd hr ho hne hz hO hg hx hl hm ((heap_setCell_same w r i _ _ u hr).trans (by rw [hs])) ?_ (hk.mono (fun _ _ h => .inl h)) (fun k h => .inl h)
  rw [hout]
  refine own_only ho hk ?_
  intro k hv e
  obtain ⟨_, cs, hc⟩ := own_type ho k hv
  exact blk_type_ne hc hr (by decide) e
end
theorem strN_drop (l : List Nat) (n : Nat) (_h : n ≤ l.length) : (strN l).extract n (strN l).size = strN (l.drop n) := by
  apply ByteArray.ext
  simp [strN, List.map_drop]
  refine List.take_of_length_le ?_
  have e : (strN l).size = l.length := strN_size l
  unfold strN at e
  rw [e]
  simp
theorem strN_nats' {l : List Nat} (h : Hf.Byte l) : nats (strN l) = l := nats_strN l h

set_option maxRecDepth 100000 in
set_option maxHeartbeats 1000000 in
theorem literal_any (w0 w : World) (b d : Nat) (g0 : Option Nat) (r lst lim : Nat) (bx : List (Nat × Obj)) (s : Hk.Rd) (h : Rk w0 b d g0 r lst lim bx s w) (hb : Hf.Byte s.rest) (hl : s.rest.length ≤ 140737488355328) :
    Calls Try.prog 64 #[.pointer (some ⟨r, 0, none⟩)] w fun e w' => e = .returned (.tuple #[.string (Hk.lit s.rest).1, .int .i64 ((Hk.lit s.rest).2.2 : Nat)]) ∧ Rk w0 b d g0 r lst lim bx { s with rest := (Hk.lit s.rest).2.1 } w' := by
  obtain ⟨t, n, e, hR⟩ : ∃ t n e, Pr.readStr s.rest Hk.most = (t, n, e) := ⟨_, _, _, rfl⟩
  have hlit : Hk.lit s.rest = (strN t, s.rest.drop n, e) := by unfold Hk.lit; rw [hR]
  have hn := Hk.readStr_used s.rest Hk.most
  have hsz := Hk.readStr_size s.rest hb Hk.most
  rw [hR] at hn hsz
  rw [hlit]
  simp only at hn hsz ⊢
  have HRS := Lib.hid (fun w => readStr_any (strN s.rest) 2147483647 Hk.most (t, n, e) w (by rfl) (by rw [nats_strN _ hb]; exact hR) (by rw [strN_size]; omega))
  have htz : (strN t).size ≤ 281474976710656 := by rw [strN_size]; omega
  have hext := strN_drop s.rest n hn
  have hsl := fun w => run_slice_string_l (P := Try.prog) w 9 (strN s.rest) Try.underlying9 .i64 (n : Int) (by omega) (by rw [strN_size]; omega)
  simp only [Int.toNat_natCast, hext] at hsl
  obtain ⟨g, v, hT, hd, hr, ho, hne, hz, hO, hg, hx⟩ := h
  have hc1 : w.cell? ⟨r, 1, none⟩ = some (.string (strN s.rest)) := bcell_of hr 1 _ rfl
  clear hR hlit hn hsz hext hl
  go_enter Try.func64, Try.ntmps64
  go_wp2_with fail
  refine (HRS.out _).mono ?_
  rintro en w2 ⟨rfl, hb2⟩
  have hR2 : Rk w0 b d g0 r lst lim bx s w2 := Rk.below ⟨g, v, hT, hd, hr, ho, hne, hz, hO, hg, hx⟩ hb2
  clear hT hd hr ho hne hz hO hg hx hc1
  clear g v
  obtain ⟨g, v, hT, hd, hr, ho, hne, hz, hO, hg, hx⟩ := hR2
  have hc1 : w2.cell? ⟨r, 1, none⟩ = some (.string (strN s.rest)) := bcell_of hr 1 _ rfl
  have hf1 : w2.frozen? ⟨r, 1, none⟩ = false := frozen_of_row w2 r 1 _ _ hr
  have hR3 : Rk w0 b d g0 r lst lim bx { s with rest := s.rest.drop n } (w2.setCell ⟨r, 1, none⟩ (.string (strN (s.rest.drop n)))) := Rk.set hT hd hr ho hne hz hO hg hx rfl rfl rfl rfl
  clear hT hd hr ho hne hz hO hg hx hb2
  clear g v
  go_wp2_with fail
  refine (clone_any (strN t) _ htz).mono ?_
  rintro en w4 ⟨rfl, hb4⟩
  go_wp2
  go_ret2
  exact ⟨rfl, hR3.below hb4⟩
end Go.Proofs.Ytmjibpjnhehnnaa
