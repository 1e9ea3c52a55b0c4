/- The fifteenth part of the theory: the machine goes along with a function's text on plain data. -/
import Derived.Test.YthhfhllfbnpcgaaCoN
namespace Go.Proofs.Ythhfhllfbnpcgaa.Co
open Go
set_option linter.unusedSimpArgs false
set_option linter.unusedVariables false
section
variable {P : Program} {w0 : World} {pb : Fence} {n : Nat} {g : G} {r : Reg} {m : Mem} {a : Act} {w : World}
theorem Sim.world {w' : World} (h : Sim w0 pb n g r m a w) (hs : Same w w') (hk : ∀ b, b < w.heap.size → w'.heap[b]? = w.heap[b]?) : Sim w0 pb n g r m a w' := by
  obtain ⟨h1, h2⟩ := h.mf.below hs hk
  exact ⟨h1, fun t => (h.regs t).mv h2, h.size, h.defers, h.mv.trans h2⟩
theorem awp_sound (hmx : P.follows .mixedOrders = true) : ∀ (c : Code) {Q : Exit → Reg → Mem → Prop} {g : G} {r : Reg} {m : Mem} {a : Act} {w : World}, okC n c = true → awp P c Q r m → Sim w0 pb n g r m a w → c.wp P (Post w0 pb n Q) a w
  | .skip, Q, g, r, m, a, w, _, h, hs => wp_skip ⟨r, m, g, h, hs⟩
  | .region id ops false, Q, g, r, m, a, w, hok, h, hs => by
    refine wp_region ?_
    have := aSeq_sound (P := P) (Q := Post w0 pb n Q) (K := Q .normal) (md := .seq) (ops := ops) hok (fun r m a w g h1 h2 => ⟨r, m, g, h1, h2⟩) ops.size (g := g) (r := r) (m := m) (a := a) (w := w) (Nat.le_refl _) (by simpa [awp] using h) hs
    rw [Nat.sub_self] at this
    rw [List.range_eq_range']
    exact this
  | .region id ops true, Q, g, r, m, a, w, hok, h, hs => by
    refine wp_region_any hmx ?_
    exact draw_sound (K := Q .normal) hok (fun r m a w g h1 h2 => ⟨r, m, g, h1, h2⟩) (by simpa [awp] using h) (hs.world ⟨rfl, rfl, rfl, Nat.le_refl _⟩ (fun _ _ => rfl))
  | .seq x y, Q, g, r, m, a, w, hok, h, hs => by
    simp only [okC, Bool.and_eq_true] at hok
    refine wp_seq (wp_mono (awp_sound hmx x hok.1 h hs) ?_)
    rintro e a' w' ⟨r', m', g', h1, h2⟩
    cases e with
    | normal => exact awp_sound hmx y hok.2 h1 h2
    | _ => exact ⟨r', m', g', h1, h2⟩
  | .cond c x y, Q, g, r, m, a, w, hok, h, hs => by
    simp only [okC, Bool.and_eq_true] at hok
    simp only [awp] at h
    split at h
    · rename_i t hc
      have hv := hs.ev c
      rw [hc] at hv
      have hv := VR.one_sc hv
      refine wp_cond hv ?_
      unfold gK at h
      cases t with
      | true => exact awp_sound hmx x hok.1 (by simpa using h) hs
      | false => exact awp_sound hmx y hok.2 (by simpa using h) hs
    · exact h.elim
  | .block id c, Q, g, r, m, a, w, hok, h, hs => by
    refine wp_block (wp_mono (awp_sound hmx c hok h hs) ?_)
    rintro e a' w' ⟨r', m', g', h1, h2⟩
    cases e with
    | exit id' =>
      simp only [blockK] at h1
      simp only [Exit.inBlock]
      split at h1
      · rename_i he; rw [if_pos he]; exact ⟨r', m', g', h1, h2⟩
      · rename_i he; rw [if_neg he]; exact ⟨r', m', g', h1, h2⟩
    | _ => exact ⟨r', m', g', h1, h2⟩
  | .loop c, Q, g, r, m, a, w, hok, h, hs => by
    obtain ⟨I, ⟨n0, h0⟩, hr⟩ := h
    refine wp_loop' (fun k a w => ∃ r m g, I k r m ∧ Sim w0 pb n g r m a w) n0 ⟨r, m, g, h0, hs⟩ ?_
    rintro k a' w' ⟨r', m', g', h1, h2⟩
    refine wp_mono (awp_sound hmx c hok (hr k r' m' h1) h2) ?_
    rintro e a2 w2 ⟨r2, m2, g2, h3, h4⟩
    cases e with
    | normal =>
      obtain ⟨k', h5, h6⟩ := h3
      exact ⟨k', h5, r2, m2, g2, h6, h4⟩
    | _ => exact ⟨r2, m2, g2, h3, h4⟩
  | .exit id, Q, g, r, m, a, w, _, h, hs => wp_exit ⟨r, m, g, h, hs⟩
  | .ret, Q, g, r, m, a, w, _, h, hs => wp_ret ⟨r, m, g, h, hs⟩
  | .rangeFunc .., _, _, _, _, _, _, _, h, _ => h.elim
  | .scope .., _, _, _, _, _, _, _, h, _ => h.elim
  | .label .., _, _, _, _, _, _, _, h, _ => h.elim
  | .goto .., _, _, _, _, _, _, _, h, _ => h.elim
  | .refuse .., _, _, _, _, _, _, _, h, _ => h.elim
end
end Go.Proofs.Ythhfhllfbnpcgaa.Co
