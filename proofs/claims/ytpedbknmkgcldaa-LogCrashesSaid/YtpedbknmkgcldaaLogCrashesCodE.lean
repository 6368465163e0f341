/- Part of the proof of LogCrashes: the contracts of the functions. -/
import Derived.Test.YtpedbknmkgcldaaLogCrashesCodD

set_option linter.unusedVariables false
set_option linter.unusedSimpArgs false
namespace Go.Proofs.Ytpedbknmkgcldaa
open Go.Ab Go.RowKit
/-! ## a log whose power goes: each call is done whole, or is refused -/
def LS.lu (x : LS) (u : Int) : LD := ⟨⟨x.calls, false, u, x.fs⟩, x.recs, wsum x.recs, x.file, false⟩
theorem nine0 : (9 : Int) ≠ 0 := by decide
theorem one0 : (1 : Int) ≠ 0 := by decide
theorem eight0 : (8 : Int) ≠ 0 := by decide
theorem zero9 : (0 : Int) ≠ 9 := by decide
def Fails (x : LS) (p : Int × LD) : Prop := p.1 = 9 ∧ p.2.dead = true ∧ p.2.recs = x.recs ∧ p.2.d.fine ∧ getN logN p.2.d.fs = getN logN x.fs ∧ 0 ≤ p.2.size ∧ p.2.size ≤ 524288
theorem LS.lu_fine {x : LS} (h : x.ok) (u : Int) : (x.lu u).d.fine := by
  have := h.fine
  exact ⟨⟨this.ok.len⟩, this.nd, this.good, this.few⟩
theorem LS.lu_spend {x : LS} {u : Int} (h : (x.lu u).d.spend.off = false) : (x.lu u).d.spend = ⟨x.spend, false, u, x.fs⟩ := spend_on h
theorem LS.lu_append {x : LS} (h : x.ok) (u : Int) {s : ByteArray} (h1 : s.size ≤ 4096) (h2 : (s.size : Int) + 16 ≤ 524288 - wsum x.recs) : (x.lu u).append s = (0, (x.put s).lu u) ∨ Fails x ((x.lu u).append s) := by
  have hl := h.len
  have hf := frame_len s
  cases ho : (x.lu u).d.spend.off with
  | true =>
    right
    have ha : (x.lu u).d.append logN (frameL s) = (9, (x.lu u).d.spend) := app_off log_good ho
    rw [lapp_err (l := x.lu u) rfl (by omega) (by show ¬ _ > 524288 - wsum x.recs; omega) (by rw [ha]; exact nine0), ha]
    exact ⟨rfl, rfl, rfl, (LS.lu_fine h u).spend, rfl, wsum_nonneg x.recs, h.sum⟩
  | false =>
    left
    have hsp := LS.lu_spend ho
    have ha : (x.lu u).d.append logN (frameL s) = (0, ((x.put s).lu u).d) := by
      cases hx : x.file with
      | false =>
        obtain ⟨e1, e2⟩ := h.new hx
        have e : x.fs = [] := by simp [LS.fs, hx]
        rw [app_new log_good ho (show getN logN x.fs = none by rw [e]; rfl) (by omega) (show ¬ x.fs.length = 16 by rw [e]; simp), hsp]
        show (0, DD.mk _ _ _ (x.fs ++ _)) = (0, DD.mk _ _ _ (LS.fs _))
        simp [hx, LS.fs, LS.put, e1, e2, layL]
      | true =>
        have e : x.fs = [⟨logN, x.safe, layL x.recs⟩] := by simp [LS.fs, hx]
        rw [app_old log_good ho (f := ⟨logN, x.safe, layL x.recs⟩) (show getN logN x.fs = _ by rw [e]; simp [getN]) (show ¬ (frameL s).length > 1048576 - (layL x.recs).length by omega), hsp]
        show (0, DD.mk _ _ _ (updN logN _ x.fs)) = (0, DD.mk _ _ _ (LS.fs _))
        simp [hx, LS.fs, LS.put, updN, lay_app]
    rw [lapp_ok (l := x.lu u) rfl (by omega) (by show ¬ _ > 524288 - wsum x.recs; omega) (by rw [ha]), ha]
    simp only [LS.lu, LS.put, wsum_app]
theorem LS.lu_sync {x : LS} (h : x.ok) (u : Int) : (x.lu u).sync = (0, if x.file = true then x.synced.lu u else x.lu u) ∨ Fails x ((x.lu u).sync) := by
  have h3 : (x.lu u).dead = false := rfl
  cases hx : x.file with
  | false =>
    left
    have h2 : (x.lu u).file = false := hx
    have h4 : (x.lu u).d.off = false := rfl
    have e : (x.lu u).did 0 = x.lu u := rfl
    simp only [LD.sync, h2, h3, h4]
    simp [e]
  | true =>
    have h2 : (x.lu u).file = true := hx
    have e : x.fs = [⟨logN, x.safe, layL x.recs⟩] := by simp [LS.fs, hx]
    cases ho : (x.lu u).d.spend.off with
    | true =>
      right
      have hs : (x.lu u).d.sync logN = (9, (x.lu u).d.spend) := sync_off log_good ho
      have e2 : (x.lu u).sync = (9, ({ x.lu u with d := (x.lu u).d.spend } : LD).did 9) := by
        simp only [LD.sync, h2, h3, hs]
        simp
      rw [e2]
      exact ⟨rfl, rfl, rfl, (LS.lu_fine h u).spend, rfl, wsum_nonneg x.recs, h.sum⟩
    | false =>
      left
      have hsp := LS.lu_spend ho
      have hs : (x.lu u).d.sync logN = (0, (x.synced.lu u).d) := by
        rw [sync_some log_good ho (f := ⟨logN, x.safe, layL x.recs⟩) (show getN logN x.fs = _ by rw [e]; simp [getN]), hsp]
        show (0, DD.mk _ _ _ (updN logN _ x.fs)) = (0, DD.mk _ _ _ (LS.fs _))
        simp [hx, LS.fs, LS.synced, updN]
      simp only [LD.sync, h2, h3, hs]
      simp [LD.did, LS.lu, LS.synced, hx]
theorem LS.lu_reset {x : LS} (h : x.ok) (u : Int) {s : List ByteArray} (hc : (counted s).2 = 0) : (x.lu u).reset s = (0, (x.laid s).lu u) ∨ Fails x ((x.lu u).reset s) := by
  have hc1 : (counted s).1 = wsum s ∧ wsum s ≤ 524288 := by
    rw [counted_eq] at hc ⊢
    split at hc
    · cases hc
    · split at hc
      · cases hc
      · rename_i h1 h2
        rw [if_neg h1, if_neg h2]
        exact ⟨rfl, by omega⟩
  have hl := lay_len s
  have hfr : getN freshN x.fs = none := by
    unfold LS.fs
    split
    · simp [getN, fresh_log]
    · rfl
  have hrd : (x.lu u).d.read freshN = ([], 3) := read_none fresh_good rfl hfr
  have hsw : (x.lu u).sweep = (0, x.lu u) := by simp [LD.sweep, hrd]
  have hlen : ¬ x.fs.length = 16 := by
    unfold LS.fs
    split <;> simp
  have hf0 := LS.lu_fine h u
  have hlg : ∀ b c : List UInt8, getN logN (x.fs ++ [⟨freshN, b, c⟩]) = getN logN x.fs := fun b c => getN_app fresh_log x.fs
  cases ho : (x.lu u).d.spend.off with
  | true =>
    right
    have h1 : (x.lu u).app1 s = (9, (x.lu u).d.spend) := by
      unfold LD.app1
      rw [hsw]
      exact app_off fresh_good ho
    rw [res2 rfl hc (by rw [hsw]) (by rw [h1]; exact nine0), hsw, h1]
    exact ⟨rfl, rfl, rfl, hf0.spend, rfl, wsum_nonneg x.recs, h.sum⟩
  | false =>
  have hsp := LS.lu_spend ho
  have h1a : (x.lu u).d.append freshN (layL s) = (0, ⟨x.spend, false, u, x.fs ++ [⟨freshN, [], layL s⟩]⟩) := by
    rw [app_new fresh_good ho hfr (by omega) hlen, hsp]
    rfl
  have h1 : (x.lu u).app1 s = (0, ⟨x.spend, false, u, x.fs ++ [⟨freshN, [], layL s⟩]⟩) := by
    unfold LD.app1
    rw [hsw]
    exact h1a
  have hf1 := hf0.append freshN (layL s)
  rw [h1a] at hf1
  obtain ⟨d1, hd1⟩ : ∃ d1 : DD, DD.mk x.spend false u (x.fs ++ [⟨freshN, [], layL s⟩]) = d1 := ⟨_, rfl⟩
  have hd1fs : d1.fs = x.fs ++ [⟨freshN, [], layL s⟩] := by rw [← hd1]
  have hg2 : getN freshN (x.fs ++ [⟨freshN, [], layL s⟩]) = some ⟨freshN, [], layL s⟩ := by
    unfold LS.fs
    split <;> simp [getN, fresh_log]
  cases ho1 : d1.spend.off with
  | true =>
    right
    have h2 : (x.lu u).syn1 s = (9, d1.spend) := by
      unfold LD.syn1
      rw [h1, hd1]
      exact sync_off fresh_good ho1
    rw [res3 rfl hc (by rw [hsw]) (by rw [h1]) (by rw [h2]; exact nine0), hsw, h2]
    refine ⟨rfl, rfl, rfl, ?_, ?_, wsum_nonneg x.recs, h.sum⟩
    · show d1.spend.fine
      rw [← hd1]; exact DD.fine.spend hf1
    · show getN logN d1.fs = _
      rw [hd1fs]; exact hlg _ _
  | false =>
  have hsp1 := spend_on ho1
  have h2a : (DD.mk x.spend false u (x.fs ++ [⟨freshN, [], layL s⟩])).sync freshN = (0, ⟨IntKind.i64.wrap (x.spend + 1), false, u, x.fs ++ [⟨freshN, layL s, layL s⟩]⟩) := by
    rw [hd1, sync_some fresh_good ho1 (f := ⟨freshN, [], layL s⟩) (by rw [hd1fs]; exact hg2), hsp1, ← hd1]
    unfold LS.fs
    split <;> simp [updN, fresh_log]
  have h2 : (x.lu u).syn1 s = (0, ⟨IntKind.i64.wrap (x.spend + 1), false, u, x.fs ++ [⟨freshN, layL s, layL s⟩]⟩) := by
    unfold LD.syn1
    rw [h1]
    exact h2a
  have hf2 := DD.fine.sync hf1 freshN
  rw [h2a] at hf2
  obtain ⟨d2, hd2⟩ : ∃ d2 : DD, DD.mk (IntKind.i64.wrap (x.spend + 1)) false u (x.fs ++ [⟨freshN, layL s, layL s⟩]) = d2 := ⟨_, rfl⟩
  have hd2fs : d2.fs = x.fs ++ [⟨freshN, layL s, layL s⟩] := by rw [← hd2]
  have hg3 : getN freshN (x.fs ++ [⟨freshN, layL s, layL s⟩]) = some ⟨freshN, layL s, layL s⟩ := by
    unfold LS.fs
    split <;> simp [getN, fresh_log]
  cases ho2 : d2.spend.off with
  | true =>
    right
    have h3 : (x.lu u).ren1 s = (9, d2.spend) := by
      unfold LD.ren1
      rw [h2, hd2]
      exact ren_off log_good fresh_good ho2
    rw [res4 rfl hc (by rw [hsw]) (by rw [h1]) (by rw [h2]) (by rw [h3]; exact nine0), hsw, h3]
    refine ⟨rfl, rfl, rfl, ?_, ?_, wsum_nonneg x.recs, h.sum⟩
    · show d2.spend.fine
      rw [← hd2]; exact DD.fine.spend hf2
    · show getN logN d2.fs = _
      rw [hd2fs]; exact hlg _ _
  | false =>
  left
  have hsp2 := spend_on ho2
  have h3 : (x.lu u).ren1 s = (0, ((x.laid s).lu u).d) := by
    unfold LD.ren1
    rw [h2, hd2]
    rw [ren_some log_good fresh_good ho2 (f := ⟨freshN, layL s, layL s⟩) (by rw [hd2fs]; exact hg3), hsp2, ← hd2]
    show _ = (0, DD.mk _ _ _ (LS.fs _))
    unfold LS.fs
    split <;> simp [delN, setN, getN, updN, fresh_log, LS.laid]
  rw [res5 rfl hc (by rw [hsw]) (by rw [h1]) (by rw [h2]) (by rw [h3]), hsw, h3, hc1.1]
  simp [LD.did, LS.lu, LS.laid]
/-! what may be found behind a crash -/
structure Cov (x : LS) (can : List (List ByteArray)) : Prop where
  new : x.file = false → [] ∈ can
  old : x.file = true → ∃ r0 q, x.safe = layL r0 ∧ x.recs = r0 ++ q ∧ ∀ t, t <+: q → r0 ++ t ∈ can
def canL (can : List (List ByteArray)) (a : Act10) (e : Int) (m : List ByteArray) : List (List ByteArray) := (if e = 0 ∧ a.w ≥ 4 then [] else can) ++ [m]
theorem Cov.more {x : LS} {can can' : List (List ByteArray)} (h : Cov x can) (hc : ∀ r ∈ can, r ∈ can') : Cov x can' :=
  ⟨fun hf => hc _ (h.new hf), fun hf => by
    obtain ⟨r0, q, h1, h2, h3⟩ := h.old hf
    exact ⟨r0, q, h1, h2, fun t ht => hc _ (h3 t ht)⟩⟩
theorem Cov.here {x : LS} {can : List (List ByteArray)} (h : Cov x can) (hx : x.ok) : x.recs ∈ can := by
  cases hf : x.file with
  | false => rw [(hx.new hf).1]; exact h.new hf
  | true =>
    obtain ⟨r0, q, h1, h2, h3⟩ := h.old hf
    rw [h2]; exact h3 q (List.prefix_refl _)
theorem cov_good {x : LS} (hx : x.ok) {can : List (List ByteArray)} (h : Cov x can) {d : DD} (hf : d.fine) (he : getN logN d.fs = getN logN x.fs) : d.good (· ∈ can) := by
  cases hfl : x.file with
  | false =>
    have e : x.fs = [] := by simp [LS.fs, hfl]
    rw [e] at he
    exact ⟨hf, fun _ => h.new hfl, fun f hs => by rw [he] at hs; cases hs⟩
  | true =>
    have e : x.fs = [⟨logN, x.safe, layL x.recs⟩] := by simp [LS.fs, hfl]
    have e2 : getN logN d.fs = some ⟨logN, x.safe, layL x.recs⟩ := by rw [he, e]; simp [getN]
    obtain ⟨r0, q, h1, h2, h3⟩ := h.old hfl
    have hs0 : ∀ s ∈ r0, s.size ≤ 4096 := fun s hs => hx.small s (by rw [h2]; exact List.mem_append_left _ hs)
    have hsq : ∀ s ∈ q, s.size ≤ 4096 := fun s hs => hx.small s (by rw [h2]; exact List.mem_append_right _ hs)
    refine ⟨hf, fun hn => (by rw [e2] at hn; cases hn), fun f hs => ?_⟩
    rw [e2] at hs
    cases hs
    refine ⟨?_, ?_, fun p => ?_⟩
    · show scanL (layL x.recs) ∈ can
      rw [scan_all _ hx.small, h2]
      exact h3 q (List.prefix_refl _)
    · show scanL x.safe ∈ can
      rw [h1, scan_all _ hs0]
      have := h3 [] List.nil_prefix
      rwa [List.append_nil] at this
    · show scanL (tornL x.safe (layL x.recs) p) ∈ can
      rw [h1, h2]
      obtain ⟨t, ht1, ht2⟩ := scan_torn r0 q hs0 hsq p
      rw [ht2]
      exact h3 t ht1
theorem prefix_snoc {α : Type} {t q : List α} {s : α} (h : t <+: q ++ [s]) : t <+: q ∨ t = q ++ [s] := by
  obtain ⟨z, hz⟩ := h
  rcases List.eq_nil_or_concat z with rfl | ⟨z', y, rfl⟩
  · right; simpa using hz
  · left
    rw [List.concat_eq_append, ← List.append_assoc] at hz
    exact ⟨z', (List.append_inj' hz rfl).1⟩
/-- what an act does: whole, or nothing -/
theorem does_lu {x : LS} (hx : x.ok) (u : Int) {a : Act10} (ha : a.light) {can : List (List ByteArray)} (hc : Cov x can) :
    (∃ y : LS, y.ok ∧ (x.lu u).does a = ((nextL x.recs a).2, y.lu u) ∧ y.recs = (nextL x.recs a).1 ∧ Cov y (canL can a (nextL x.recs a).2 (nextL x.recs a).1)) ∨ (Fails x ((x.lu u).does a) ∧ (nextL x.recs a).2 ≠ 9) := by
  have hdead : (x.lu u).dead = false := rfl
  have hkeep : ∀ e m, e ≠ 0 → Cov x (canL can a e m) := fun e m he => by
    unfold canL
    rw [if_neg (fun h => he h.1)]
    exact hc.more fun r hr => List.mem_append_left _ hr
  by_cases h4 : a.w = 4
  · have e1 : (x.lu u).does a = (x.lu u).reset a.l := by simp only [LD.does, if_pos h4]
    rw [e1]
    have hbad : (counted a.l).2 ≠ 0 → (x.lu u).reset a.l = ((counted a.l).2, x.lu u) := fun h => by simp [LD.reset, hdead, h]
    have hce := counted_eq a.l
    by_cases hall : a.l.all (fun x => decide (x.size ≤ 4096)) = false
    · rw [if_pos hall] at hce
      have en : nextL x.recs a = (x.recs, 1) := by simp only [nextL, if_pos h4, if_pos hall]
      rw [en, hbad (by rw [hce]; decide), hce]
      exact .inl ⟨x, hx, rfl, rfl, hkeep _ _ one0⟩
    · rw [if_neg hall] at hce
      by_cases hw : wsum a.l > 524288
      · rw [if_pos hw] at hce
        have en : nextL x.recs a = (x.recs, 8) := by simp only [nextL, if_pos h4, if_neg hall, if_pos hw]
        rw [en, hbad (by rw [hce]; decide), hce]
        exact .inl ⟨x, hx, rfl, rfl, hkeep _ _ eight0⟩
      · rw [if_neg hw] at hce
        have en : nextL x.recs a = (a.l, 0) := by simp only [nextL, if_pos h4, if_neg hall, if_neg hw]
        have hc0 : (counted a.l).2 = 0 := by rw [hce]
        rw [en]
        rcases LS.lu_reset hx u hc0 with h | h
        · rw [h]
          refine .inl ⟨x.laid a.l, LS.laid_ok x hc0, rfl, rfl, ⟨fun h => (by cases h), fun _ => ⟨a.l, [], rfl, by simp [LS.laid], fun t ht => ?_⟩⟩⟩
          rw [List.prefix_nil.1 ht, List.append_nil]
          simp [canL]
        · exact .inr ⟨h, zero9⟩
  · by_cases h56 : a.w = 5 ∨ a.w = 6
    · have e1 : (x.lu u).does a = (x.lu u).sync := by simp only [LD.does, if_neg h4, if_pos h56]
      have en : nextL x.recs a = (x.recs, 0) := by simp only [nextL, if_neg h4, if_pos h56]
      rw [e1, en]
      rcases LS.lu_sync hx u with h | h
      · rw [h]
        cases hf : x.file with
        | false =>
          refine .inl ⟨x, hx, rfl, rfl, ⟨fun _ => ?_, fun h => (by rw [hf] at h; cases h)⟩⟩
          rw [← (hx.new hf).1]
          simp [canL]
        | true =>
          refine .inl ⟨x.synced, LS.synced_ok hx, rfl, rfl, ⟨fun h => (by cases h), fun _ => ⟨x.recs, [], rfl, by simp [LS.synced], fun t ht => ?_⟩⟩⟩
          rw [List.prefix_nil.1 ht, List.append_nil]
          simp [canL]
      · exact .inr ⟨h, zero9⟩
    · have e1 : (x.lu u).does a = (x.lu u).append a.s := by simp only [LD.does, if_neg h4, if_neg h56]
      rw [e1]
      by_cases hb : a.s.size > 4096
      · have en : nextL x.recs a = (x.recs, 1) := by simp only [nextL, if_neg h4, if_neg h56, if_pos hb]
        rw [en, lapp_long hdead hb]
        exact .inl ⟨x, hx, rfl, rfl, hkeep _ _ one0⟩
      · by_cases hw : wsum x.recs > 524288 - a.s.size - 16
        · have en : nextL x.recs a = (x.recs, 8) := by simp only [nextL, if_neg h4, if_neg h56, if_neg hb, if_pos hw]
          rw [en, lapp_full hdead hb (show _ > 524288 - wsum x.recs by omega)]
          exact .inl ⟨x, hx, rfl, rfl, hkeep _ _ eight0⟩
        · have en : nextL x.recs a = (x.recs ++ [a.s], 0) := by simp only [nextL, if_neg h4, if_neg h56, if_neg hb, if_neg hw]
          rw [en]
          rcases LS.lu_append hx u (s := a.s) (by omega) (by omega) with h | h
          · rw [h]
            have hsub : ∀ r ∈ can, r ∈ canL can a 0 (x.recs ++ [a.s]) := fun r hr => by
              unfold canL
              have hw0 : ¬ a.w ≥ 4 := by
                have : a.w = (a.act % 18446744073709551616) % 7 := rfl
                omega
              rw [if_neg (fun h => hw0 h.2)]
              exact List.mem_append_left _ hr
            refine .inl ⟨x.put a.s, LS.put_ok hx (by omega) (by omega), rfl, rfl, ⟨fun h => (by cases h), fun _ => ?_⟩⟩
            cases hf : x.file with
            | false =>
              refine ⟨[], [a.s], (hx.new hf).2, by show x.recs ++ [a.s] = _; rw [(hx.new hf).1], fun t ht => ?_⟩
              rw [List.nil_append]
              rcases prefix_snoc (q := []) ht with h | h
              · rw [List.prefix_nil.1 h]; exact hsub _ (hc.new hf)
              · rw [h, (hx.new hf).1]; simp [canL]
            | true =>
              obtain ⟨r0, q, h1, h2, h3⟩ := hc.old hf
              refine ⟨r0, q ++ [a.s], h1, by show x.recs ++ [a.s] = _; rw [h2, List.append_assoc], fun t ht => ?_⟩
              rcases prefix_snoc ht with h | h
              · exact hsub _ (h3 t h)
              · rw [h, h2, List.append_assoc]; simp [canL]
          · exact .inr ⟨h, zero9⟩
end Go.Proofs.Ytpedbknmkgcldaa

namespace Go.Proofs.Ytpedbknmkgcldaa
open Go.Ab Go.RowKit Go.MapKept
attribute [local irreducible] ACalls AW ADraw Into
set_option maxRecDepth 100000
theorem off_ok (d : Dk) (n : Int) : ACalls Try.prog 32 [.ptr 0 0, .d (.int .i64 n)] d.L (fun av L => ∃ d' : Dk, av = .tup [] ∧ L = d'.L ∧ d'.dat = d.dat.turn n) := by
  refine acalls_go ttOk zOk foOk Try.func32 rfl Try.ntmps32 rfl false rfl ?_
  conv => whnf
  ((with_reducible refine mt_dec (fun _ => ?_) (fun _ => ?_)) <;> (conv => whnf))
  · rename_i h
    exact ⟨{ d with off := true }, rfl, rfl, by simp [DD.turn, h, Dk.dat]⟩
  · rename_i h
    intro z hz
    conv => whnf
    subst hz
    exact ⟨{ d with upto := IntKind.i64.wrap (d.calls + n) }, rfl, rfl, by simp [DD.turn, h, Dk.dat]⟩
theorem calls_ok (d : Dk) : ACalls Try.prog 37 [.ptr 0 0] d.L (fun av L => av = .d (.int .i64 d.dat.calls) ∧ L = d.L) := by
  refine acalls_go ttOk zOk foOk Try.func37 rfl Try.ntmps37 rfl false rfl ?_
  conv => whnf
  exact ⟨rfl, rfl⟩
end Go.Proofs.Ytpedbknmkgcldaa

namespace Go.Proofs.Ytpedbknmkgcldaa
open Go.Ab Go.RowKit Go.MapKept
attribute [local irreducible] ACalls AW ADraw Into
set_option maxRecDepth 100000
theorem eqStrings_row (xs ys : List ByteArray) (sh : Bool) (hm : xs.length ≤ 140737488355328) : ACalls Try.prog 45 [.arr 0, .d (.sl 1 (strs ys))] [.row 9 1 (strs xs) sh] (fun av L => av = .d (.bool (decide (xs = ys))) ∧ L = [.row 9 1 (strs xs) sh]) := by
  unfold strs
  refine acalls_go ttOk zOk foOk Try.func45 rfl Try.ntmps45 rfl true rfl ?_
  conv => whnf
  ((with_reducible refine mt_ne (fun _ => ?_) (fun _ => ?_)) <;> (conv => whnf))
  · rename_i h
    simp only [List.length_map] at h
    rw [decide_eq_false (fun e => h (by rw [e]))]; exact ⟨rfl, rfl⟩
  · rename_i h
    simp only [List.length_map] at h
    have hl : xs.length = ys.length := by omega
    refine loop_go ttOk zOk foOk (σ := Nat) (fun k => ([(0, .arr 0), (1, .d (.sl 1 (ys.map fun s => [DV.str s]))), (5, .d (.int .i64 k))], [.row 9 1 (xs.map fun s => [DV.str s]) sh])) (fun k => k ≤ xs.length ∧ xs.take k = ys.take k) (fun k => xs.length - k) [0, 1, 5] ?_ ?_
    · conv => whnf
      exact ⟨0, rfl, rfl, by simp⟩
    · rintro k ⟨hk, he⟩
      conv => whnf
      ((with_reducible refine mt_dec (fun _ => ?_) (fun _ => ?_)) <;> (conv => whnf))
      · rename_i h
        simp only [List.length_map] at h
        obtain ⟨a, ha⟩ : ∃ a, xs[k]? = some a := ⟨_, List.getElem?_eq_getElem (by omega)⟩
        obtain ⟨b, hb⟩ : ∃ b, ys[k]? = some b := ⟨_, List.getElem?_eq_getElem (by omega)⟩
        ((with_reducible refine draw_pl ttOk zOk foOk mixedOk pl45x6 ?_ ?_); (focus kernel_rfl); (conv => whnf))
        repeat' (first | ((with_reducible apply rd_intro); (focus (intro K hK; (conv => whnf); first | exact hK | (intro z hz; rw [wrapI (by omega)] at hz; subst hz; exact hK))); (conv => whnf)) | ((with_reducible apply gd_and); (focus ((conv => whnf); first | rfl | (intro K hK; (conv => whnf); first | exact hK | (intro z hz; rw [wrapI (by omega)] at hz; subst hz; exact hK)))); (conv => whnf)) | ((with_reducible apply z_wrap); (focus omega); (conv => whnf)) | ((with_reducible refine mt_dec (fun _ => ?_) (fun _ => ?_)) <;> (conv => whnf)) | ((with_reducible refine mt_eq (fun _ => ?_) (fun _ => ?_)) <;> (conv => whnf)) | ((with_reducible refine mt_ne (fun _ => ?_) (fun _ => ?_)) <;> (conv => whnf)) | ((with_reducible refine mt_not (fun _ => ?_) (fun _ => ?_)) <;> (conv => whnf)) | ((with_reducible refine mt_any (fun _ => ?_) (fun _ => ?_)) <;> (conv => whnf)))
        ((with_reducible apply rd_intro); (focus (intro K hK; (conv => whnf); exact ⟨by omega, by rw [List.length_map]; (show k < xs.length); omega, hK⟩)); (conv => whnf))
        repeat' (first | ((with_reducible apply rd_intro); (focus (intro K hK; (conv => whnf); first | exact hK | (intro z hz; rw [wrapI (by omega)] at hz; subst hz; exact hK))); (conv => whnf)) | ((with_reducible apply gd_and); (focus ((conv => whnf); first | rfl | (intro K hK; (conv => whnf); first | exact hK | (intro z hz; rw [wrapI (by omega)] at hz; subst hz; exact hK)))); (conv => whnf)) | ((with_reducible apply z_wrap); (focus omega); (conv => whnf)) | ((with_reducible refine mt_dec (fun _ => ?_) (fun _ => ?_)) <;> (conv => whnf)) | ((with_reducible refine mt_eq (fun _ => ?_) (fun _ => ?_)) <;> (conv => whnf)) | ((with_reducible refine mt_ne (fun _ => ?_) (fun _ => ?_)) <;> (conv => whnf)) | ((with_reducible refine mt_not (fun _ => ?_) (fun _ => ?_)) <;> (conv => whnf)) | ((with_reducible refine mt_any (fun _ => ?_) (fun _ => ?_)) <;> (conv => whnf)))
        ((with_reducible apply rd_intro); (focus (intro K hK; (conv => whnf); exact ⟨[.str a], by (show (xs.map fun s => [DV.str s])[k]? = _); rw [List.getElem?_map, ha]; rfl, hK⟩)); (conv => whnf))
        repeat' (first | ((with_reducible apply rd_intro); (focus (intro K hK; (conv => whnf); first | exact hK | (intro z hz; rw [wrapI (by omega)] at hz; subst hz; exact hK))); (conv => whnf)) | ((with_reducible apply gd_and); (focus ((conv => whnf); first | rfl | (intro K hK; (conv => whnf); first | exact hK | (intro z hz; rw [wrapI (by omega)] at hz; subst hz; exact hK)))); (conv => whnf)) | ((with_reducible apply z_wrap); (focus omega); (conv => whnf)) | ((with_reducible refine mt_dec (fun _ => ?_) (fun _ => ?_)) <;> (conv => whnf)) | ((with_reducible refine mt_eq (fun _ => ?_) (fun _ => ?_)) <;> (conv => whnf)) | ((with_reducible refine mt_ne (fun _ => ?_) (fun _ => ?_)) <;> (conv => whnf)) | ((with_reducible refine mt_not (fun _ => ?_) (fun _ => ?_)) <;> (conv => whnf)) | ((with_reducible refine mt_any (fun _ => ?_) (fun _ => ?_)) <;> (conv => whnf)))
        ((with_reducible apply rd_intro); (focus (intro K hK; (conv => whnf); exact ix_map hb (by first | rfl | omega) hK)); (conv => whnf))
        repeat' (first | ((with_reducible apply rd_intro); (focus (intro K hK; (conv => whnf); first | exact hK | (intro z hz; rw [wrapI (by omega)] at hz; subst hz; exact hK))); (conv => whnf)) | ((with_reducible apply gd_and); (focus ((conv => whnf); first | rfl | (intro K hK; (conv => whnf); first | exact hK | (intro z hz; rw [wrapI (by omega)] at hz; subst hz; exact hK)))); (conv => whnf)) | ((with_reducible apply z_wrap); (focus omega); (conv => whnf)) | ((with_reducible refine mt_dec (fun _ => ?_) (fun _ => ?_)) <;> (conv => whnf)) | ((with_reducible refine mt_eq (fun _ => ?_) (fun _ => ?_)) <;> (conv => whnf)) | ((with_reducible refine mt_ne (fun _ => ?_) (fun _ => ?_)) <;> (conv => whnf)) | ((with_reducible refine mt_not (fun _ => ?_) (fun _ => ?_)) <;> (conv => whnf)) | ((with_reducible refine mt_any (fun _ => ?_) (fun _ => ?_)) <;> (conv => whnf)))
        · rename_i h
          have h2 : a ≠ b := by intro e; subst e; simp at h
          rw [decide_eq_false (fun e => by subst e; rw [ha] at hb; cases hb; exact h2 rfl)]; exact ⟨rfl, rfl⟩
        · rename_i h
          have h2 : a = b := by
            rcases a with ⟨⟨a⟩⟩; rcases b with ⟨⟨b⟩⟩
            simpa using h
          exact ⟨k + 1, rfl, rfl, ⟨by omega, (take_succ_eq ha hb he).2 h2⟩, by omega⟩
      · rename_i h
        simp only [List.length_map] at h
        obtain rfl : k = xs.length := by omega
        rw [decide_eq_true (by rw [List.take_length, hl, List.take_length] at he; exact he)]; exact ⟨rfl, rfl⟩
end Go.Proofs.Ytpedbknmkgcldaa

namespace Go.Proofs.Ytpedbknmkgcldaa
open Go.Ab Go.RowKit Go.MapKept
attribute [local irreducible] ACalls AW ADraw Into
set_option maxRecDepth 100000
theorem equal_ok (a b : List UInt8) : ACalls Try.prog 71 [.d (.sl 1 (u8s a)), .d (.sl 1 (u8s b))] [] (fun av L => av = .d (.bool (decide (a = b))) ∧ L = []) := by
  refine acalls_go ttOk zOk foOk Try.func71 rfl Try.ntmps71 rfl false rfl ?_
  conv => whnf
  refine ⟨a, rfl, ?_⟩
  conv => whnf
  refine ⟨b, rfl, ?_⟩
  conv => whnf
  have h : ∀ x : List UInt8, (⟨x.toArray⟩ : ByteArray).toList = x := fun x => by rw [ByteArray.toList_eq]
  rw [h, h]
  refine ⟨?_, rfl⟩
  congr 2
  rw [Bool.eq_iff_iff]
  simp
end Go.Proofs.Ytpedbknmkgcldaa

namespace Go.Proofs.Ytpedbknmkgcldaa
open Go.Ab Go.RowKit Go.MapKept
attribute [local irreducible] ACalls AW ADraw Into
set_option maxRecDepth 100000
theorem tdiv_in (p n : Int) (hn : 0 < n) (hp : -9223372036854775808 ≤ p ∧ p < 9223372036854775808) : -9223372036854775808 ≤ p.tdiv n ∧ p.tdiv n < 9223372036854775808 := by
  rcases Int.lt_or_le p 0 with h | h
  · have e : p.tdiv n = -((-p).tdiv n) := by rw [Int.neg_tdiv, Int.neg_neg]
    rw [e, Int.tdiv_eq_ediv_of_nonneg (by omega)]
    have h1 : (-p) / n ≤ -p := Int.ediv_le_self _ (by omega)
    have h2 : 0 ≤ (-p) / n := Int.ediv_nonneg (by omega) (by omega)
    omega
  · rw [Int.tdiv_eq_ediv_of_nonneg h]
    have h1 : p / n ≤ p := Int.ediv_le_self _ h
    have h2 : 0 ≤ p / n := Int.ediv_nonneg h (by omega)
    omega
theorem tmod_in (p n : Int) (hn : 0 < n) : (0 ≤ p.tmod n ∧ p.tmod n = p % n ∧ p.tdiv n = p / n ∧ p.tmod n < n) ∨ (-n < p.tmod n ∧ p.tmod n < 0 ∧ p.tmod n + n = p % n ∧ p.tdiv n - 1 = p / n) := by
  have hd := Int.mul_tdiv_add_tmod p n
  have h3 : p.tmod n < n := Int.tmod_lt_of_pos p hn
  have h4 : -n < p.tmod n := by
    have := Int.tmod_lt_of_pos (-p) hn
    rw [Int.neg_tmod] at this; omega
  rcases Int.lt_or_le (p.tmod n) 0 with h | h
  · right
    have := (Int.ediv_emod_unique (a := p) (b := n) (r := p.tmod n + n) (q := p.tdiv n - 1) hn).2 ⟨by rw [Int.mul_sub]; omega, by omega, by omega⟩
    exact ⟨h4, h, this.2.symm, this.1.symm⟩
  · left
    have := (Int.ediv_emod_unique (a := p) (b := n) (r := p.tmod n) (q := p.tdiv n) hn).2 ⟨by omega, h, h3⟩
    exact ⟨h, this.2.symm, this.1.symm, h3⟩
theorem modulo_ok (p n : Int) (hn : 0 < n) (hn2 : n ≤ 4611686018427387904) (hp : -9223372036854775808 ≤ p ∧ p < 9223372036854775808) : ACalls Try.prog 72 [.d (.int .i64 p), .d (.int .i64 n)] [] (fun av L => av = .tup [.d (.int .i64 (p % n)), .d (.int .i64 (p / n))] ∧ L = []) := by
  refine acalls_go ttOk zOk foOk Try.func72 rfl Try.ntmps72 rfl false rfl ?_
  conv => whnf
  ((with_reducible refine draw_pl ttOk zOk foOk mixedOk pl72x1 ?_ ?_); (focus kernel_rfl); (conv => whnf))
  repeat' (first | ((with_reducible apply rd_intro); (focus (intro K hK; (conv => whnf); first | exact hK | (intro z hz; rw [wrapI (by omega)] at hz; subst hz; exact hK))); (conv => whnf)) | ((with_reducible apply gd_and); (focus ((conv => whnf); first | rfl | (intro K hK; (conv => whnf); first | exact hK | (intro z hz; rw [wrapI (by omega)] at hz; subst hz; exact hK)))); (conv => whnf)) | ((with_reducible apply z_wrap); (focus omega); (conv => whnf)) | ((with_reducible refine mt_dec (fun _ => ?_) (fun _ => ?_)) <;> (conv => whnf)) | ((with_reducible refine mt_eq (fun _ => ?_) (fun _ => ?_)) <;> (conv => whnf)) | ((with_reducible refine mt_ne (fun _ => ?_) (fun _ => ?_)) <;> (conv => whnf)) | ((with_reducible refine mt_not (fun _ => ?_) (fun _ => ?_)) <;> (conv => whnf)) | ((with_reducible refine mt_any (fun _ => ?_) (fun _ => ?_)) <;> (conv => whnf)))
  ((with_reducible apply rd_intro); (focus (intro K hK; (conv => whnf); refine ⟨by omega, ?_⟩; intro z hz; subst hz; exact hK)); (conv => whnf))
  repeat' (first | ((with_reducible apply rd_intro); (focus (intro K hK; (conv => whnf); first | exact hK | (intro z hz; rw [wrapI (by omega)] at hz; subst hz; exact hK))); (conv => whnf)) | ((with_reducible apply gd_and); (focus ((conv => whnf); first | rfl | (intro K hK; (conv => whnf); first | exact hK | (intro z hz; rw [wrapI (by omega)] at hz; subst hz; exact hK)))); (conv => whnf)) | ((with_reducible apply z_wrap); (focus omega); (conv => whnf)) | ((with_reducible refine mt_dec (fun _ => ?_) (fun _ => ?_)) <;> (conv => whnf)) | ((with_reducible refine mt_eq (fun _ => ?_) (fun _ => ?_)) <;> (conv => whnf)) | ((with_reducible refine mt_ne (fun _ => ?_) (fun _ => ?_)) <;> (conv => whnf)) | ((with_reducible refine mt_not (fun _ => ?_) (fun _ => ?_)) <;> (conv => whnf)) | ((with_reducible refine mt_any (fun _ => ?_) (fun _ => ?_)) <;> (conv => whnf)))
  ((with_reducible apply rd_intro); (focus (intro K hK; (conv => whnf); refine ⟨by omega, ?_⟩; intro z hz; subst hz; exact hK)); (conv => whnf))
  have hq := tdiv_in p n hn hp
  rw [show IntKind.i64.wrap (p.tdiv n) = p.tdiv n from wrapI hq]
  have hl := tmod_in p n hn
  repeat' (first | ((with_reducible apply rd_intro); (focus (intro K hK; (conv => whnf); first | exact hK | (intro z hz; rw [wrapI (by omega)] at hz; subst hz; exact hK))); (conv => whnf)) | ((with_reducible apply gd_and); (focus ((conv => whnf); first | rfl | (intro K hK; (conv => whnf); first | exact hK | (intro z hz; rw [wrapI (by omega)] at hz; subst hz; exact hK)))); (conv => whnf)) | ((with_reducible apply z_wrap); (focus omega); (conv => whnf)) | ((with_reducible refine mt_dec (fun _ => ?_) (fun _ => ?_)) <;> (conv => whnf)) | ((with_reducible refine mt_eq (fun _ => ?_) (fun _ => ?_)) <;> (conv => whnf)) | ((with_reducible refine mt_ne (fun _ => ?_) (fun _ => ?_)) <;> (conv => whnf)) | ((with_reducible refine mt_not (fun _ => ?_) (fun _ => ?_)) <;> (conv => whnf)) | ((with_reducible refine mt_any (fun _ => ?_) (fun _ => ?_)) <;> (conv => whnf)))
  · intro z hz
    conv => whnf
    refine ⟨?_, rfl⟩
    subst hz
    rcases hl with hl | hl
    · omega
    · rw [show IntKind.i64.wrap (p.tdiv n - 1) = p.tdiv n - 1 from wrapI (by have := Int.le_ediv_of_mul_le (a := -9223372036854775808) (b := p) hn (by omega); omega)]
      rw [← hl.2.2.1, ← hl.2.2.2]
  · rcases hl with hl | hl
    · rw [← hl.2.1, ← hl.2.2.1]; exact ⟨rfl, rfl⟩
    · omega
end Go.Proofs.Ytpedbknmkgcldaa

namespace Go.Proofs.Ytpedbknmkgcldaa
open Go.Ab Go.RowKit Go.MapKept
attribute [local irreducible] ACalls AW ADraw Into
set_option maxRecDepth 100000
abbrev rows2 (l : List (List UInt8)) : List (List DV) := l.map fun x => [.sl 1 (u8s x)]
def longestL (l : List (List UInt8)) : Nat := l.foldl (fun m x => max m x.length) 0
theorem longest_ok (l : List (List UInt8)) (hl : l.length ≤ 1000) : ACalls Try.prog 106 [.d (.sl 1 (rows2 l))] [] (fun av L => av = .d (.int .i64 (longestL l : Nat)) ∧ L = []) := by
  refine acalls_go ttOk zOk foOk Try.func106 rfl Try.ntmps106 rfl false rfl ?_
  conv => whnf
  refine loop_go ttOk zOk foOk (σ := Nat) (fun k => ([(2, .d (.int .i64 (longestL (l.take k) : Nat))), (5, .d (.sl 1 (rows2 l))), (6, .d (.int .i64 (rows2 l).length)), (7, .d (.int .i64 k))], [])) (fun k => k ≤ l.length) (fun k => l.length - k) [2, 5, 6, 7] ?_ ?_
  · conv => whnf
    exact ⟨0, rfl, rfl, by omega⟩
  · rintro k hk
    conv => whnf
    refine sp_dec (fun h => ?_) (fun h => ?_) <;> simp only [rows2, List.length_map] at h
    · conv => whnf
      obtain ⟨a, ha⟩ : ∃ a, l[k]? = some a := ⟨_, List.getElem?_eq_getElem (by omega)⟩
      ((with_reducible refine ix_map ha ?_ ?_); (focus (first | rfl | omega)); (conv => whnf))
      repeat' (first | ((with_reducible apply z_wrap); (focus omega); (conv => whnf)) | ((with_reducible refine mt_dec (fun _ => ?_) (fun _ => ?_)) <;> (conv => whnf)) | ((with_reducible refine mt_eq (fun _ => ?_) (fun _ => ?_)) <;> (conv => whnf)) | ((with_reducible refine mt_ne (fun _ => ?_) (fun _ => ?_)) <;> (conv => whnf)) | ((with_reducible refine mt_not (fun _ => ?_) (fun _ => ?_)) <;> (conv => whnf)) | ((with_reducible refine mt_any (fun _ => ?_) (fun _ => ?_)) <;> (conv => whnf)))
      refine ⟨k + 1, ?_, rfl, by omega, by omega⟩
      have : longestL (l.take (k + 1)) = max (longestL (l.take k)) a.length := by
        rw [List.take_add_one, ha]
        simp [longestL, List.foldl_append]
      rw [this]
      simp only [u8s_length]
      rw [show ((max (longestL (l.take k)) a.length : Nat) : Int) = max ((longestL (l.take k) : Nat) : Int) (a.length : Int) by omega]
      rfl
    · conv => whnf
      obtain rfl : k = l.length := by omega
      rw [List.take_length]
      exact ⟨rfl, rfl⟩
end Go.Proofs.Ytpedbknmkgcldaa

namespace Go.Proofs.Ytpedbknmkgcldaa
open Go.Ab Go.RowKit Go.MapKept
attribute [local irreducible] ACalls AW ADraw Into
set_option maxRecDepth 100000
theorem bclone_row (xs : List UInt8) (hm : xs.length ≤ 140737488355328) : ACalls Try.prog 107 [.d (.sl 1 (u8s xs))] [] (fun av L => av = .arr 0 ∧ L = [.row 5 1 (u8s xs) false]) := by
  refine acalls_go ttOk zOk foOk Try.func107 rfl Try.ntmps107 rfl true rfl ?_
  conv => whnf
  intro b hb
  conv => whnf
  refine sp_any (fun h => ?_) (fun h => ?_)
  · conv => whnf
    exact ⟨rfl, by rw [hb h]⟩
  · conv => whnf
    refine ⟨by simp [u8s]; omega, ?_⟩
    conv => whnf
    exact ⟨rfl, rfl⟩
end Go.Proofs.Ytpedbknmkgcldaa

namespace Go.Proofs.Ytpedbknmkgcldaa
open Go.Ab Go.RowKit Go.MapKept
attribute [local irreducible] ACalls AW ADraw Into
set_option maxRecDepth 100000
theorem box_at0 {fs : List Fl} {f : Fl} (h : f ∈ fs) {r : List AB} : BoxIn (.map (fs.map Fl.ent) :: r) f.b f.cs := ⟨0, _, rfl, boxcs_mem h⟩
theorem pad_rows (l : List UInt8) (n : Nat) : u8s l ++ List.replicate ((n : Int) - ((u8s l).length : Int)).toNat [DV.int .u8 0] = u8s (padTo n l) := by
  unfold padTo
  rw [u8s_length, show ((n : Int) - (l.length : Int)).toNat = n - l.length by omega]
  simp [u8s]
theorem pad_length {l : List UInt8} {n : Nat} (h : l.length ≤ n) : (padTo n l).length = n := by
  unfold padTo; simp; omega
theorem torn_ok (fs : List Fl) (f : Fl) (hf : f ∈ fs) (h1 : f.safe.length ≤ 1048576) (h2 : f.seen.length ≤ 1048576) (hne : f.safe ≠ f.seen) (p : Int) (hp : -9223372036854775808 ≤ p ∧ p < 9223372036854775808) :
    ACalls Try.prog 73 [.mp 0 f.b 0, .d (.int .i64 p)] [.map (fs.map Fl.ent)] (fun av L => av = .d (.sl 1 (u8s (tornL f.safe f.seen p))) ∧ L = [.map (fs.map Fl.ent)]) := by
  have hu1 := u8s_length f.safe
  have hu2 := u8s_length f.seen
  refine acalls_go ttOk zOk foOk Try.func73 rfl Try.ntmps73 rfl false rfl ?_
  conv => whnf
  ((with_reducible refine draw_pl ttOk zOk foOk mixedOk pl73x1 ?_ ?_); (focus kernel_rfl); (conv => whnf))
  repeat' (first | ((with_reducible apply rd_intro); (focus (intro K hK; (conv => whnf); first | exact hK | (intro z hz; rw [wrapI (by omega)] at hz; subst hz; exact hK))); (conv => whnf)) | ((with_reducible apply gd_and); (focus ((conv => whnf); first | rfl | (intro K hK; (conv => whnf); first | exact hK | (intro z hz; rw [wrapI (by omega)] at hz; subst hz; exact hK)))); (conv => whnf)) | ((with_reducible apply z_wrap); (focus omega); (conv => whnf)) | ((with_reducible refine mt_dec (fun _ => ?_) (fun _ => ?_)) <;> (conv => whnf)) | ((with_reducible refine mt_eq (fun _ => ?_) (fun _ => ?_)) <;> (conv => whnf)) | ((with_reducible refine mt_ne (fun _ => ?_) (fun _ => ?_)) <;> (conv => whnf)) | ((with_reducible refine mt_not (fun _ => ?_) (fun _ => ?_)) <;> (conv => whnf)) | ((with_reducible refine mt_any (fun _ => ?_) (fun _ => ?_)) <;> (conv => whnf)))
  ((with_reducible apply rd_intro); (focus (intro K hK; (conv => whnf); exact ⟨f.cs, box_at0 hf, hK⟩)); (conv => whnf))
  repeat' (first | ((with_reducible apply rd_intro); (focus (intro K hK; (conv => whnf); first | exact hK | (intro z hz; rw [wrapI (by omega)] at hz; subst hz; exact hK))); (conv => whnf)) | ((with_reducible apply gd_and); (focus ((conv => whnf); first | rfl | (intro K hK; (conv => whnf); first | exact hK | (intro z hz; rw [wrapI (by omega)] at hz; subst hz; exact hK)))); (conv => whnf)) | ((with_reducible apply z_wrap); (focus omega); (conv => whnf)) | ((with_reducible refine mt_dec (fun _ => ?_) (fun _ => ?_)) <;> (conv => whnf)) | ((with_reducible refine mt_eq (fun _ => ?_) (fun _ => ?_)) <;> (conv => whnf)) | ((with_reducible refine mt_ne (fun _ => ?_) (fun _ => ?_)) <;> (conv => whnf)) | ((with_reducible refine mt_not (fun _ => ?_) (fun _ => ?_)) <;> (conv => whnf)) | ((with_reducible refine mt_any (fun _ => ?_) (fun _ => ?_)) <;> (conv => whnf)))
  ((with_reducible apply rd_intro); (focus (intro K hK; (conv => whnf); exact ⟨f.cs, box_at0 hf, hK⟩)); (conv => whnf))
  repeat' (first | ((with_reducible apply rd_intro); (focus (intro K hK; (conv => whnf); first | exact hK | (intro z hz; rw [wrapI (by omega)] at hz; subst hz; exact hK))); (conv => whnf)) | ((with_reducible apply gd_and); (focus ((conv => whnf); first | rfl | (intro K hK; (conv => whnf); first | exact hK | (intro z hz; rw [wrapI (by omega)] at hz; subst hz; exact hK)))); (conv => whnf)) | ((with_reducible apply z_wrap); (focus omega); (conv => whnf)) | ((with_reducible refine mt_dec (fun _ => ?_) (fun _ => ?_)) <;> (conv => whnf)) | ((with_reducible refine mt_eq (fun _ => ?_) (fun _ => ?_)) <;> (conv => whnf)) | ((with_reducible refine mt_ne (fun _ => ?_) (fun _ => ?_)) <;> (conv => whnf)) | ((with_reducible refine mt_not (fun _ => ?_) (fun _ => ?_)) <;> (conv => whnf)) | ((with_reducible refine mt_any (fun _ => ?_) (fun _ => ?_)) <;> (conv => whnf)))
  (refine Or.inl ?_; (conv => whnf))
  refine (longest_ok [f.safe, f.seen] (by simp)).mono ?_
  rintro _ _ ⟨rfl, rfl⟩
  conv => whnf
  rw [show longestL [f.safe, f.seen] = max f.safe.length f.seen.length by simp [longestL]]
  have hml : max f.safe.length f.seen.length ≤ 1048576 := by omega
  have hm1 : f.safe.length ≤ max f.safe.length f.seen.length := by omega
  have hm2 : f.seen.length ≤ max f.safe.length f.seen.length := by omega
  have hT : tornL f.safe f.seen p = ((padTo (max f.safe.length f.seen.length) f.seen).take (tornN f.safe f.seen p) ++ (padTo (max f.safe.length f.seen.length) f.safe).drop (tornN f.safe f.seen p)).take f.seen.length := rfl
  have hN : tornN f.safe f.seen p = min ((p % (((max f.safe.length f.seen.length + 31) / 32 : Nat) + 1 : Int)).toNat * 32) (max f.safe.length f.seen.length) := rfl
  rw [hT]
  clear hT
  have hpos : 0 < max f.safe.length f.seen.length := by
    rcases Nat.eq_zero_or_pos (max f.safe.length f.seen.length) with h | h
    · exact absurd (by rw [List.eq_nil_of_length_eq_zero (show f.safe.length = 0 by omega), List.eq_nil_of_length_eq_zero (show f.seen.length = 0 by omega)]) hne
    · exact h
  generalize hlg : max f.safe.length f.seen.length = lg at *
  repeat' (first | ((with_reducible apply rd_intro); (focus (intro K hK; (conv => whnf); first | exact hK | (intro z hz; rw [wrapI (by omega)] at hz; subst hz; exact hK))); (conv => whnf)) | ((with_reducible apply gd_and); (focus ((conv => whnf); first | rfl | (intro K hK; (conv => whnf); first | exact hK | (intro z hz; rw [wrapI (by omega)] at hz; subst hz; exact hK)))); (conv => whnf)) | ((with_reducible apply z_wrap); (focus omega); (conv => whnf)) | ((with_reducible refine mt_dec (fun _ => ?_) (fun _ => ?_)) <;> (conv => whnf)) | ((with_reducible refine mt_eq (fun _ => ?_) (fun _ => ?_)) <;> (conv => whnf)) | ((with_reducible refine mt_ne (fun _ => ?_) (fun _ => ?_)) <;> (conv => whnf)) | ((with_reducible refine mt_not (fun _ => ?_) (fun _ => ?_)) <;> (conv => whnf)) | ((with_reducible refine mt_any (fun _ => ?_) (fun _ => ?_)) <;> (conv => whnf)))
  refine ⟨by decide, ?_⟩
  intro z hz
  have hz' : z = ((lg + 31) / 32 : Nat) := by
    rw [hz, wrapI (by rw [Int.tdiv_eq_ediv_of_nonneg (by omega)]; omega), Int.tdiv_eq_ediv_of_nonneg (by omega)]; omega
  clear hz
  subst hz'
  conv => whnf
  repeat' (first | ((with_reducible apply rd_intro); (focus (intro K hK; (conv => whnf); first | exact hK | (intro z hz; rw [wrapI (by omega)] at hz; subst hz; exact hK))); (conv => whnf)) | ((with_reducible apply gd_and); (focus ((conv => whnf); first | rfl | (intro K hK; (conv => whnf); first | exact hK | (intro z hz; rw [wrapI (by omega)] at hz; subst hz; exact hK)))); (conv => whnf)) | ((with_reducible apply z_wrap); (focus omega); (conv => whnf)) | ((with_reducible refine mt_dec (fun _ => ?_) (fun _ => ?_)) <;> (conv => whnf)) | ((with_reducible refine mt_eq (fun _ => ?_) (fun _ => ?_)) <;> (conv => whnf)) | ((with_reducible refine mt_ne (fun _ => ?_) (fun _ => ?_)) <;> (conv => whnf)) | ((with_reducible refine mt_not (fun _ => ?_) (fun _ => ?_)) <;> (conv => whnf)) | ((with_reducible refine mt_any (fun _ => ?_) (fun _ => ?_)) <;> (conv => whnf)))
  have hm0 := Int.emod_nonneg p (show (((lg + 31) / 32 : Nat) : Int) + 1 ≠ 0 by omega)
  have hmk := Int.emod_lt_of_pos p (show (0 : Int) < (((lg + 31) / 32 : Nat) : Int) + 1 by omega)
  ((with_reducible refine (modulo_ok p ((((lg + 31) / 32 : Nat) : Int) + 1) (by omega) (by omega) hp).mono ?_); rintro _ _ ⟨rfl, rfl⟩; (conv => whnf))
  generalize p % ((((lg + 31) / 32 : Nat) : Int) + 1) = md at *
  generalize hnt : tornN f.safe f.seen p = nt at *
  repeat' (first | ((with_reducible apply rd_intro); (focus (intro K hK; (conv => whnf); first | exact hK | (intro z hz; rw [wrapI (by omega)] at hz; subst hz; exact hK))); (conv => whnf)) | ((with_reducible apply gd_and); (focus ((conv => whnf); first | rfl | (intro K hK; (conv => whnf); first | exact hK | (intro z hz; rw [wrapI (by omega)] at hz; subst hz; exact hK)))); (conv => whnf)) | ((with_reducible apply z_wrap); (focus omega); (conv => whnf)) | ((with_reducible refine mt_dec (fun _ => ?_) (fun _ => ?_)) <;> (conv => whnf)) | ((with_reducible refine mt_eq (fun _ => ?_) (fun _ => ?_)) <;> (conv => whnf)) | ((with_reducible refine mt_ne (fun _ => ?_) (fun _ => ?_)) <;> (conv => whnf)) | ((with_reducible refine mt_not (fun _ => ?_) (fun _ => ?_)) <;> (conv => whnf)) | ((with_reducible refine mt_any (fun _ => ?_) (fun _ => ?_)) <;> (conv => whnf)))
  rw [show min (md * 32) (lg : Int) = (nt : Int) by omega]
  ((with_reducible refine draw_pl ttOk zOk foOk mixedOk pl73x5 ?_ ?_); (focus kernel_rfl); (conv => whnf))
  repeat' (first | ((with_reducible apply rd_intro); (focus (intro K hK; (conv => whnf); first | exact hK | (intro z hz; rw [wrapI (by omega)] at hz; subst hz; exact hK))); (conv => whnf)) | ((with_reducible apply gd_and); (focus ((conv => whnf); first | rfl | (intro K hK; (conv => whnf); first | exact hK | (intro z hz; rw [wrapI (by omega)] at hz; subst hz; exact hK)))); (conv => whnf)) | ((with_reducible apply z_wrap); (focus omega); (conv => whnf)) | ((with_reducible refine mt_dec (fun _ => ?_) (fun _ => ?_)) <;> (conv => whnf)) | ((with_reducible refine mt_eq (fun _ => ?_) (fun _ => ?_)) <;> (conv => whnf)) | ((with_reducible refine mt_ne (fun _ => ?_) (fun _ => ?_)) <;> (conv => whnf)) | ((with_reducible refine mt_not (fun _ => ?_) (fun _ => ?_)) <;> (conv => whnf)) | ((with_reducible refine mt_any (fun _ => ?_) (fun _ => ?_)) <;> (conv => whnf)))
  ((with_reducible apply rd_intro); (focus (intro K hK; (conv => whnf); exact ⟨f.cs, box_at0 hf, hK⟩)); (conv => whnf))
  repeat' (first | ((with_reducible apply rd_intro); (focus (intro K hK; (conv => whnf); first | exact hK | (intro z hz; rw [wrapI (by omega)] at hz; subst hz; exact hK))); (conv => whnf)) | ((with_reducible apply gd_and); (focus ((conv => whnf); first | rfl | (intro K hK; (conv => whnf); first | exact hK | (intro z hz; rw [wrapI (by omega)] at hz; subst hz; exact hK)))); (conv => whnf)) | ((with_reducible apply z_wrap); (focus omega); (conv => whnf)) | ((with_reducible refine mt_dec (fun _ => ?_) (fun _ => ?_)) <;> (conv => whnf)) | ((with_reducible refine mt_eq (fun _ => ?_) (fun _ => ?_)) <;> (conv => whnf)) | ((with_reducible refine mt_ne (fun _ => ?_) (fun _ => ?_)) <;> (conv => whnf)) | ((with_reducible refine mt_not (fun _ => ?_) (fun _ => ?_)) <;> (conv => whnf)) | ((with_reducible refine mt_any (fun _ => ?_) (fun _ => ?_)) <;> (conv => whnf)))
  ((with_reducible apply rd_intro); (focus (intro K hK; (conv => whnf); exact ⟨f.cs, box_at0 hf, hK⟩)); (conv => whnf))
  repeat' (first | ((with_reducible apply rd_intro); (focus (intro K hK; (conv => whnf); first | exact hK | (intro z hz; rw [wrapI (by omega)] at hz; subst hz; exact hK))); (conv => whnf)) | ((with_reducible apply gd_and); (focus ((conv => whnf); first | rfl | (intro K hK; (conv => whnf); first | exact hK | (intro z hz; rw [wrapI (by omega)] at hz; subst hz; exact hK)))); (conv => whnf)) | ((with_reducible apply z_wrap); (focus omega); (conv => whnf)) | ((with_reducible refine mt_dec (fun _ => ?_) (fun _ => ?_)) <;> (conv => whnf)) | ((with_reducible refine mt_eq (fun _ => ?_) (fun _ => ?_)) <;> (conv => whnf)) | ((with_reducible refine mt_ne (fun _ => ?_) (fun _ => ?_)) <;> (conv => whnf)) | ((with_reducible refine mt_not (fun _ => ?_) (fun _ => ?_)) <;> (conv => whnf)) | ((with_reducible refine mt_any (fun _ => ?_) (fun _ => ?_)) <;> (conv => whnf)))
  refine (bclone_row f.safe (by omega)).mono ?_
  rintro _ _ ⟨rfl, rfl⟩
  conv => whnf
  repeat' (first | ((with_reducible apply rd_intro); (focus (intro K hK; (conv => whnf); first | exact hK | (intro z hz; rw [wrapI (by omega)] at hz; subst hz; exact hK))); (conv => whnf)) | ((with_reducible apply gd_and); (focus ((conv => whnf); first | rfl | (intro K hK; (conv => whnf); first | exact hK | (intro z hz; rw [wrapI (by omega)] at hz; subst hz; exact hK)))); (conv => whnf)) | ((with_reducible apply z_wrap); (focus omega); (conv => whnf)) | ((with_reducible refine mt_dec (fun _ => ?_) (fun _ => ?_)) <;> (conv => whnf)) | ((with_reducible refine mt_eq (fun _ => ?_) (fun _ => ?_)) <;> (conv => whnf)) | ((with_reducible refine mt_ne (fun _ => ?_) (fun _ => ?_)) <;> (conv => whnf)) | ((with_reducible refine mt_not (fun _ => ?_) (fun _ => ?_)) <;> (conv => whnf)) | ((with_reducible refine mt_any (fun _ => ?_) (fun _ => ?_)) <;> (conv => whnf)))
  ((with_reducible apply gd_and); (focus ((conv => whnf); intro K hK; (conv => whnf); exact ⟨f.cs, box_at0 hf, hK⟩)); (conv => whnf))
  repeat' (first | ((with_reducible apply rd_intro); (focus (intro K hK; (conv => whnf); first | exact hK | (intro z hz; rw [wrapI (by omega)] at hz; subst hz; exact hK))); (conv => whnf)) | ((with_reducible apply gd_and); (focus ((conv => whnf); first | rfl | (intro K hK; (conv => whnf); first | exact hK | (intro z hz; rw [wrapI (by omega)] at hz; subst hz; exact hK)))); (conv => whnf)) | ((with_reducible apply z_wrap); (focus omega); (conv => whnf)) | ((with_reducible refine mt_dec (fun _ => ?_) (fun _ => ?_)) <;> (conv => whnf)) | ((with_reducible refine mt_eq (fun _ => ?_) (fun _ => ?_)) <;> (conv => whnf)) | ((with_reducible refine mt_ne (fun _ => ?_) (fun _ => ?_)) <;> (conv => whnf)) | ((with_reducible refine mt_not (fun _ => ?_) (fun _ => ?_)) <;> (conv => whnf)) | ((with_reducible refine mt_any (fun _ => ?_) (fun _ => ?_)) <;> (conv => whnf)))
  refine ⟨by omega, by rw [hu1]; simp only [Nat.mul_one]; omega, ?_⟩
  rw [pad_rows]
  conv => whnf
  repeat' (first | ((with_reducible apply rd_intro); (focus (intro K hK; (conv => whnf); first | exact hK | (intro z hz; rw [wrapI (by omega)] at hz; subst hz; exact hK))); (conv => whnf)) | ((with_reducible apply gd_and); (focus ((conv => whnf); first | rfl | (intro K hK; (conv => whnf); first | exact hK | (intro z hz; rw [wrapI (by omega)] at hz; subst hz; exact hK)))); (conv => whnf)) | ((with_reducible apply z_wrap); (focus omega); (conv => whnf)) | ((with_reducible refine mt_dec (fun _ => ?_) (fun _ => ?_)) <;> (conv => whnf)) | ((with_reducible refine mt_eq (fun _ => ?_) (fun _ => ?_)) <;> (conv => whnf)) | ((with_reducible refine mt_ne (fun _ => ?_) (fun _ => ?_)) <;> (conv => whnf)) | ((with_reducible refine mt_not (fun _ => ?_) (fun _ => ?_)) <;> (conv => whnf)) | ((with_reducible refine mt_any (fun _ => ?_) (fun _ => ?_)) <;> (conv => whnf)))
  ((with_reducible refine draw_pl ttOk zOk foOk mixedOk pl73x6 ?_ ?_); (focus kernel_rfl); (conv => whnf))
  repeat' (first | ((with_reducible apply rd_intro); (focus (intro K hK; (conv => whnf); first | exact hK | (intro z hz; rw [wrapI (by omega)] at hz; subst hz; exact hK))); (conv => whnf)) | ((with_reducible apply gd_and); (focus ((conv => whnf); first | rfl | (intro K hK; (conv => whnf); first | exact hK | (intro z hz; rw [wrapI (by omega)] at hz; subst hz; exact hK)))); (conv => whnf)) | ((with_reducible apply z_wrap); (focus omega); (conv => whnf)) | ((with_reducible refine mt_dec (fun _ => ?_) (fun _ => ?_)) <;> (conv => whnf)) | ((with_reducible refine mt_eq (fun _ => ?_) (fun _ => ?_)) <;> (conv => whnf)) | ((with_reducible refine mt_ne (fun _ => ?_) (fun _ => ?_)) <;> (conv => whnf)) | ((with_reducible refine mt_not (fun _ => ?_) (fun _ => ?_)) <;> (conv => whnf)) | ((with_reducible refine mt_any (fun _ => ?_) (fun _ => ?_)) <;> (conv => whnf)))
  ((with_reducible apply rd_intro); (focus (intro K hK; (conv => whnf); exact ⟨f.cs, box_at0 hf, hK⟩)); (conv => whnf))
  repeat' (first | ((with_reducible apply rd_intro); (focus (intro K hK; (conv => whnf); first | exact hK | (intro z hz; rw [wrapI (by omega)] at hz; subst hz; exact hK))); (conv => whnf)) | ((with_reducible apply gd_and); (focus ((conv => whnf); first | rfl | (intro K hK; (conv => whnf); first | exact hK | (intro z hz; rw [wrapI (by omega)] at hz; subst hz; exact hK)))); (conv => whnf)) | ((with_reducible apply z_wrap); (focus omega); (conv => whnf)) | ((with_reducible refine mt_dec (fun _ => ?_) (fun _ => ?_)) <;> (conv => whnf)) | ((with_reducible refine mt_eq (fun _ => ?_) (fun _ => ?_)) <;> (conv => whnf)) | ((with_reducible refine mt_ne (fun _ => ?_) (fun _ => ?_)) <;> (conv => whnf)) | ((with_reducible refine mt_not (fun _ => ?_) (fun _ => ?_)) <;> (conv => whnf)) | ((with_reducible refine mt_any (fun _ => ?_) (fun _ => ?_)) <;> (conv => whnf)))
  ((with_reducible apply rd_intro); (focus (intro K hK; (conv => whnf); exact ⟨f.cs, box_at0 hf, hK⟩)); (conv => whnf))
  repeat' (first | ((with_reducible apply rd_intro); (focus (intro K hK; (conv => whnf); first | exact hK | (intro z hz; rw [wrapI (by omega)] at hz; subst hz; exact hK))); (conv => whnf)) | ((with_reducible apply gd_and); (focus ((conv => whnf); first | rfl | (intro K hK; (conv => whnf); first | exact hK | (intro z hz; rw [wrapI (by omega)] at hz; subst hz; exact hK)))); (conv => whnf)) | ((with_reducible apply z_wrap); (focus omega); (conv => whnf)) | ((with_reducible refine mt_dec (fun _ => ?_) (fun _ => ?_)) <;> (conv => whnf)) | ((with_reducible refine mt_eq (fun _ => ?_) (fun _ => ?_)) <;> (conv => whnf)) | ((with_reducible refine mt_ne (fun _ => ?_) (fun _ => ?_)) <;> (conv => whnf)) | ((with_reducible refine mt_not (fun _ => ?_) (fun _ => ?_)) <;> (conv => whnf)) | ((with_reducible refine mt_any (fun _ => ?_) (fun _ => ?_)) <;> (conv => whnf)))
  refine (bclone_row f.seen (by omega)).mono ?_
  rintro _ _ ⟨rfl, rfl⟩
  conv => whnf
  repeat' (first | ((with_reducible apply rd_intro); (focus (intro K hK; (conv => whnf); first | exact hK | (intro z hz; rw [wrapI (by omega)] at hz; subst hz; exact hK))); (conv => whnf)) | ((with_reducible apply gd_and); (focus ((conv => whnf); first | rfl | (intro K hK; (conv => whnf); first | exact hK | (intro z hz; rw [wrapI (by omega)] at hz; subst hz; exact hK)))); (conv => whnf)) | ((with_reducible apply z_wrap); (focus omega); (conv => whnf)) | ((with_reducible refine mt_dec (fun _ => ?_) (fun _ => ?_)) <;> (conv => whnf)) | ((with_reducible refine mt_eq (fun _ => ?_) (fun _ => ?_)) <;> (conv => whnf)) | ((with_reducible refine mt_ne (fun _ => ?_) (fun _ => ?_)) <;> (conv => whnf)) | ((with_reducible refine mt_not (fun _ => ?_) (fun _ => ?_)) <;> (conv => whnf)) | ((with_reducible refine mt_any (fun _ => ?_) (fun _ => ?_)) <;> (conv => whnf)))
  ((with_reducible apply gd_and); (focus ((conv => whnf); intro K hK; (conv => whnf); exact ⟨f.cs, box_at0 hf, hK⟩)); (conv => whnf))
  repeat' (first | ((with_reducible apply rd_intro); (focus (intro K hK; (conv => whnf); first | exact hK | (intro z hz; rw [wrapI (by omega)] at hz; subst hz; exact hK))); (conv => whnf)) | ((with_reducible apply gd_and); (focus ((conv => whnf); first | rfl | (intro K hK; (conv => whnf); first | exact hK | (intro z hz; rw [wrapI (by omega)] at hz; subst hz; exact hK)))); (conv => whnf)) | ((with_reducible apply z_wrap); (focus omega); (conv => whnf)) | ((with_reducible refine mt_dec (fun _ => ?_) (fun _ => ?_)) <;> (conv => whnf)) | ((with_reducible refine mt_eq (fun _ => ?_) (fun _ => ?_)) <;> (conv => whnf)) | ((with_reducible refine mt_ne (fun _ => ?_) (fun _ => ?_)) <;> (conv => whnf)) | ((with_reducible refine mt_not (fun _ => ?_) (fun _ => ?_)) <;> (conv => whnf)) | ((with_reducible refine mt_any (fun _ => ?_) (fun _ => ?_)) <;> (conv => whnf)))
  refine ⟨by omega, by rw [hu2]; simp only [Nat.mul_one]; omega, ?_⟩
  rw [pad_rows]
  conv => whnf
  repeat' (first | ((with_reducible apply rd_intro); (focus (intro K hK; (conv => whnf); first | exact hK | (intro z hz; rw [wrapI (by omega)] at hz; subst hz; exact hK))); (conv => whnf)) | ((with_reducible apply gd_and); (focus ((conv => whnf); first | rfl | (intro K hK; (conv => whnf); first | exact hK | (intro z hz; rw [wrapI (by omega)] at hz; subst hz; exact hK)))); (conv => whnf)) | ((with_reducible apply z_wrap); (focus omega); (conv => whnf)) | ((with_reducible refine mt_dec (fun _ => ?_) (fun _ => ?_)) <;> (conv => whnf)) | ((with_reducible refine mt_eq (fun _ => ?_) (fun _ => ?_)) <;> (conv => whnf)) | ((with_reducible refine mt_ne (fun _ => ?_) (fun _ => ?_)) <;> (conv => whnf)) | ((with_reducible refine mt_not (fun _ => ?_) (fun _ => ?_)) <;> (conv => whnf)) | ((with_reducible refine mt_any (fun _ => ?_) (fun _ => ?_)) <;> (conv => whnf)))
  have hq1 : (u8s (padTo lg f.safe)).length = lg := by rw [u8s_length, pad_length hm1]
  have hq2 : (u8s (padTo lg f.seen)).length = lg := by rw [u8s_length, pad_length hm2]
  refine .inr ⟨rfl, by omega, by omega, fun h => (by rw [h] at hq1; simp at hq1; omega), ?_⟩
  rw [Int.toNat_natCast]
  conv => whnf
  repeat' (first | ((with_reducible apply rd_intro); (focus (intro K hK; (conv => whnf); first | exact hK | (intro z hz; rw [wrapI (by omega)] at hz; subst hz; exact hK))); (conv => whnf)) | ((with_reducible apply gd_and); (focus ((conv => whnf); first | rfl | (intro K hK; (conv => whnf); first | exact hK | (intro z hz; rw [wrapI (by omega)] at hz; subst hz; exact hK)))); (conv => whnf)) | ((with_reducible apply z_wrap); (focus omega); (conv => whnf)) | ((with_reducible refine mt_dec (fun _ => ?_) (fun _ => ?_)) <;> (conv => whnf)) | ((with_reducible refine mt_eq (fun _ => ?_) (fun _ => ?_)) <;> (conv => whnf)) | ((with_reducible refine mt_ne (fun _ => ?_) (fun _ => ?_)) <;> (conv => whnf)) | ((with_reducible refine mt_not (fun _ => ?_) (fun _ => ?_)) <;> (conv => whnf)) | ((with_reducible refine mt_any (fun _ => ?_) (fun _ => ?_)) <;> (conv => whnf)))
  refine ⟨by omega, ?_⟩
  rw [hq2, show (u8s (padTo lg f.seen)).take nt ++ (u8s (padTo lg f.safe)).drop (min lg nt) = u8s ((padTo lg f.seen).take nt ++ (padTo lg f.safe).drop nt) by rw [show min lg nt = nt by omega]; simp [u8s]]
  conv => whnf
  repeat' (first | ((with_reducible apply rd_intro); (focus (intro K hK; (conv => whnf); first | exact hK | (intro z hz; rw [wrapI (by omega)] at hz; subst hz; exact hK))); (conv => whnf)) | ((with_reducible apply gd_and); (focus ((conv => whnf); first | rfl | (intro K hK; (conv => whnf); first | exact hK | (intro z hz; rw [wrapI (by omega)] at hz; subst hz; exact hK)))); (conv => whnf)) | ((with_reducible apply z_wrap); (focus omega); (conv => whnf)) | ((with_reducible refine mt_dec (fun _ => ?_) (fun _ => ?_)) <;> (conv => whnf)) | ((with_reducible refine mt_eq (fun _ => ?_) (fun _ => ?_)) <;> (conv => whnf)) | ((with_reducible refine mt_ne (fun _ => ?_) (fun _ => ?_)) <;> (conv => whnf)) | ((with_reducible refine mt_not (fun _ => ?_) (fun _ => ?_)) <;> (conv => whnf)) | ((with_reducible refine mt_any (fun _ => ?_) (fun _ => ?_)) <;> (conv => whnf)))
  refine ⟨f.cs, box_at0 hf, ?_⟩
  conv => whnf
  repeat' (first | ((with_reducible apply rd_intro); (focus (intro K hK; (conv => whnf); first | exact hK | (intro z hz; rw [wrapI (by omega)] at hz; subst hz; exact hK))); (conv => whnf)) | ((with_reducible apply gd_and); (focus ((conv => whnf); first | rfl | (intro K hK; (conv => whnf); first | exact hK | (intro z hz; rw [wrapI (by omega)] at hz; subst hz; exact hK)))); (conv => whnf)) | ((with_reducible apply z_wrap); (focus omega); (conv => whnf)) | ((with_reducible refine mt_dec (fun _ => ?_) (fun _ => ?_)) <;> (conv => whnf)) | ((with_reducible refine mt_eq (fun _ => ?_) (fun _ => ?_)) <;> (conv => whnf)) | ((with_reducible refine mt_ne (fun _ => ?_) (fun _ => ?_)) <;> (conv => whnf)) | ((with_reducible refine mt_not (fun _ => ?_) (fun _ => ?_)) <;> (conv => whnf)) | ((with_reducible refine mt_any (fun _ => ?_) (fun _ => ?_)) <;> (conv => whnf)))
  have hq3 : (u8s ((padTo lg f.seen).take nt ++ (padTo lg f.safe).drop nt)).length = lg := by
    rw [u8s_length, List.length_append, List.length_take, List.length_drop, pad_length hm1, pad_length hm2]; omega
  refine .inl ?_
  conv => whnf
  refine ⟨by omega, by omega, by omega, ?_⟩
  conv => whnf
  refine ⟨?_, rfl⟩
  rw [hu2]
  simp [u8s, List.map_take]
end Go.Proofs.Ytpedbknmkgcldaa

namespace Go.Proofs.Ytpedbknmkgcldaa
open Go.Ab Go.RowKit Go.MapKept
attribute [local irreducible] ACalls AW ADraw Into
set_option maxRecDepth 100000
theorem crash_same (d : Dk) (hd : d.dat.fine) (picks : List Int) (hp : ∀ k ∈ picks, -9223372036854775808 ≤ k ∧ k < 9223372036854775808) (hpl : picks.length ≤ 140737488355328) (hsame : ∀ f ∈ d.dat.fs, f.safe = f.seen) :
    ACalls Try.prog 21 [.ptr 0 0, .d (.sl 1 (nums picks))] d.L (fun av L => ∃ ss : List ByteArray, ss.Perm (d.dat.fs.map FD.name) ∧ risingS ss ∧ av = .d (.sl 2 ((crashAt (pickFs ss d.dat.fs) picks ss.length).1.map FileS.cs)) ∧ L = d.L) := by
  refine acalls_go ttOk zOk foOk Try.func21 rfl Try.ntmps21 rfl false rfl ?_
  conv => whnf
  ((with_reducible refine (keys_ok _).mono ?_); rintro _ _ ⟨rfl, rfl⟩; (conv => whnf))
  refine (sorted_ok _ (d.fs.map Fl.name) (ent_keys _) (by have := hd.nd; rwa [show d.dat.fs = d.fs.map Fl.dat from rfl, dat_names] at this) (by have := hd.few; simp [Dk.dat] at this ⊢; omega) ?_).mono ?_
  · intro n hn
    obtain ⟨f, hf, rfl⟩ := List.mem_map.1 hn
    have := goodS_size (hd.good f.dat (List.mem_map.2 ⟨f, hf, rfl⟩))
    have h2 : (1000 : Nat) ≤ maxLen := by decide
    exact Nat.le_trans this h2
  rintro _ _ ⟨rfl, ss, hss, hr, rfl⟩
  have hss' : ss.Perm (d.dat.fs.map FD.name) := by rw [show d.dat.fs = d.fs.map Fl.dat from rfl, dat_names]; exact hss
  conv => whnf
  have hln : ss.length = d.fs.length := by have := hss.length_eq; simpa using this
  have hmem : ∀ n ∈ ss, n ∈ d.dat.fs.map FD.name := fun n hn => hss'.subset hn
  have hpk : (pickFs ss d.dat.fs).length = ss.length := by have := congrArg List.length (pick_names hmem); simpa using this
  have hfew : ss.length ≤ 16 := by have := hd.few; rw [hln]; simpa [Dk.dat] using this
  refine loop_go ttOk zOk foOk (σ := Nat) (fun k => ([(0, .ptr 0 0), (1, .d (.sl 1 (nums (crashAt (pickFs ss d.dat.fs) picks k).2))), (4, .arr 2), (17, .arr 3), (18, .d (.int .i64 (strs ss).length)), (19, .d (.int .i64 k))], d.L ++ [.row 36 2 ((crashAt (pickFs ss d.dat.fs) picks k).1.map FileS.cs) false, .row 9 1 (strs ss) false]))
    (fun k => k ≤ ss.length) (fun k => ss.length - k) [0, 1, 4, 17, 18, 19] ?_ ?_
  · conv => whnf
    exact ⟨0, rfl, rfl, by omega⟩
  · rintro k hk
    conv => whnf
    refine sp_dec (fun h => ?_) (fun h => ?_) <;> simp only [strs, List.length_map] at h
    · conv => whnf
      have hkl : k < ss.length := by omega
      obtain ⟨f, hff⟩ : ∃ f, (pickFs ss d.dat.fs)[k]? = some f := ⟨_, List.getElem?_eq_getElem (by omega)⟩
      obtain ⟨hnk, hget⟩ := pick_get hmem hff
      refine ⟨by omega, by simp [strs]; omega, ?_⟩
      conv => whnf
      refine ⟨[.str f.name], by simp [strs, hnk], ?_⟩
      conv => whnf
      obtain ⟨i, g, hgf, rfl⟩ := findF_of_get hget
      refine ⟨_, mfind_ent _ d.fs 0, ?_⟩
      rw [hgf]
      conv => whnf
      repeat' (first | ((with_reducible apply rd_intro); (focus (intro K hK; (conv => whnf); first | exact hK | (intro z hz; rw [wrapI (by omega)] at hz; subst hz; exact hK))); (conv => whnf)) | ((with_reducible apply gd_and); (focus ((conv => whnf); first | rfl | (intro K hK; (conv => whnf); first | exact hK | (intro z hz; rw [wrapI (by omega)] at hz; subst hz; exact hK)))); (conv => whnf)) | ((with_reducible apply z_wrap); (focus omega); (conv => whnf)) | ((with_reducible refine mt_dec (fun _ => ?_) (fun _ => ?_)) <;> (conv => whnf)) | ((with_reducible refine mt_eq (fun _ => ?_) (fun _ => ?_)) <;> (conv => whnf)) | ((with_reducible refine mt_ne (fun _ => ?_) (fun _ => ?_)) <;> (conv => whnf)) | ((with_reducible refine mt_not (fun _ => ?_) (fun _ => ?_)) <;> (conv => whnf)) | ((with_reducible refine mt_any (fun _ => ?_) (fun _ => ?_)) <;> (conv => whnf)))
      refine ⟨g.cs, box_at (findF_mem hgf), ?_⟩
      conv => whnf
      repeat' (first | ((with_reducible apply rd_intro); (focus (intro K hK; (conv => whnf); first | exact hK | (intro z hz; rw [wrapI (by omega)] at hz; subst hz; exact hK))); (conv => whnf)) | ((with_reducible apply gd_and); (focus ((conv => whnf); first | rfl | (intro K hK; (conv => whnf); first | exact hK | (intro z hz; rw [wrapI (by omega)] at hz; subst hz; exact hK)))); (conv => whnf)) | ((with_reducible apply z_wrap); (focus omega); (conv => whnf)) | ((with_reducible refine mt_dec (fun _ => ?_) (fun _ => ?_)) <;> (conv => whnf)) | ((with_reducible refine mt_eq (fun _ => ?_) (fun _ => ?_)) <;> (conv => whnf)) | ((with_reducible refine mt_ne (fun _ => ?_) (fun _ => ?_)) <;> (conv => whnf)) | ((with_reducible refine mt_not (fun _ => ?_) (fun _ => ?_)) <;> (conv => whnf)) | ((with_reducible refine mt_any (fun _ => ?_) (fun _ => ?_)) <;> (conv => whnf)))
      ((with_reducible refine draw_pl ttOk zOk foOk mixedOk pl21x6 ?_ ?_); (focus kernel_rfl); (conv => whnf))
      repeat' (first | ((with_reducible apply rd_intro); (focus (intro K hK; (conv => whnf); first | exact hK | (intro z hz; rw [wrapI (by omega)] at hz; subst hz; exact hK))); (conv => whnf)) | ((with_reducible apply gd_and); (focus ((conv => whnf); first | rfl | (intro K hK; (conv => whnf); first | exact hK | (intro z hz; rw [wrapI (by omega)] at hz; subst hz; exact hK)))); (conv => whnf)) | ((with_reducible apply z_wrap); (focus omega); (conv => whnf)) | ((with_reducible refine mt_dec (fun _ => ?_) (fun _ => ?_)) <;> (conv => whnf)) | ((with_reducible refine mt_eq (fun _ => ?_) (fun _ => ?_)) <;> (conv => whnf)) | ((with_reducible refine mt_ne (fun _ => ?_) (fun _ => ?_)) <;> (conv => whnf)) | ((with_reducible refine mt_not (fun _ => ?_) (fun _ => ?_)) <;> (conv => whnf)) | ((with_reducible refine mt_any (fun _ => ?_) (fun _ => ?_)) <;> (conv => whnf)))
      ((with_reducible apply rd_intro); (focus (intro K hK; (conv => whnf); exact ⟨g.cs, box_at (findF_mem hgf), hK⟩)); (conv => whnf))
      repeat' (first | ((with_reducible apply rd_intro); (focus (intro K hK; (conv => whnf); first | exact hK | (intro z hz; rw [wrapI (by omega)] at hz; subst hz; exact hK))); (conv => whnf)) | ((with_reducible apply gd_and); (focus ((conv => whnf); first | rfl | (intro K hK; (conv => whnf); first | exact hK | (intro z hz; rw [wrapI (by omega)] at hz; subst hz; exact hK)))); (conv => whnf)) | ((with_reducible apply z_wrap); (focus omega); (conv => whnf)) | ((with_reducible refine mt_dec (fun _ => ?_) (fun _ => ?_)) <;> (conv => whnf)) | ((with_reducible refine mt_eq (fun _ => ?_) (fun _ => ?_)) <;> (conv => whnf)) | ((with_reducible refine mt_ne (fun _ => ?_) (fun _ => ?_)) <;> (conv => whnf)) | ((with_reducible refine mt_not (fun _ => ?_) (fun _ => ?_)) <;> (conv => whnf)) | ((with_reducible refine mt_any (fun _ => ?_) (fun _ => ?_)) <;> (conv => whnf)))
      ((with_reducible apply rd_intro); (focus (intro K hK; (conv => whnf); exact ⟨g.cs, box_at (findF_mem hgf), hK⟩)); (conv => whnf))
      repeat' (first | ((with_reducible apply rd_intro); (focus (intro K hK; (conv => whnf); first | exact hK | (intro z hz; rw [wrapI (by omega)] at hz; subst hz; exact hK))); (conv => whnf)) | ((with_reducible apply gd_and); (focus ((conv => whnf); first | rfl | (intro K hK; (conv => whnf); first | exact hK | (intro z hz; rw [wrapI (by omega)] at hz; subst hz; exact hK)))); (conv => whnf)) | ((with_reducible apply z_wrap); (focus omega); (conv => whnf)) | ((with_reducible refine mt_dec (fun _ => ?_) (fun _ => ?_)) <;> (conv => whnf)) | ((with_reducible refine mt_eq (fun _ => ?_) (fun _ => ?_)) <;> (conv => whnf)) | ((with_reducible refine mt_ne (fun _ => ?_) (fun _ => ?_)) <;> (conv => whnf)) | ((with_reducible refine mt_not (fun _ => ?_) (fun _ => ?_)) <;> (conv => whnf)) | ((with_reducible refine mt_any (fun _ => ?_) (fun _ => ?_)) <;> (conv => whnf)))
      ((with_reducible refine (equal_ok g.safe g.seen).mono ?_); rintro _ _ ⟨rfl, rfl⟩; (conv => whnf))
      repeat' (first | ((with_reducible apply rd_intro); (focus (intro K hK; (conv => whnf); first | exact hK | (intro z hz; rw [wrapI (by omega)] at hz; subst hz; exact hK))); (conv => whnf)) | ((with_reducible apply gd_and); (focus ((conv => whnf); first | rfl | (intro K hK; (conv => whnf); first | exact hK | (intro z hz; rw [wrapI (by omega)] at hz; subst hz; exact hK)))); (conv => whnf)) | ((with_reducible apply z_wrap); (focus omega); (conv => whnf)) | ((with_reducible refine mt_dec (fun _ => ?_) (fun _ => ?_)) <;> (conv => whnf)) | ((with_reducible refine mt_eq (fun _ => ?_) (fun _ => ?_)) <;> (conv => whnf)) | ((with_reducible refine mt_ne (fun _ => ?_) (fun _ => ?_)) <;> (conv => whnf)) | ((with_reducible refine mt_not (fun _ => ?_) (fun _ => ?_)) <;> (conv => whnf)) | ((with_reducible refine mt_any (fun _ => ?_) (fun _ => ?_)) <;> (conv => whnf)))
      · rename_i h1 h2
        exact absurd (hsame g.dat (mem_getN hget)) (by simp at h1; exact h1)
      · rename_i h1 h2
        exact absurd (hsame g.dat (mem_getN hget)) (by simp at h1; exact h1)
      · have hlen : g.seen.length ≤ 1048576 := (hd.ok.len g.dat (mem_getN hget)).1
        have heq : g.dat.safe = g.dat.seen := by rename_i h1; simp at h1; exact h1
        have hst : stepC g.dat (crashAt (pickFs ss d.dat.fs) picks k).2 = (g.seen, (crashAt (pickFs ss d.dat.fs) picks k).2) := by rw [stepC, if_pos heq]; rfl
        ((with_reducible refine (clone_ok g.seen (by omega)).mono ?_); rintro _ _ ⟨rfl, rfl⟩; (conv => whnf))
        repeat' (first | ((with_reducible apply rd_intro); (focus (intro K hK; (conv => whnf); first | exact hK | (intro z hz; rw [wrapI (by omega)] at hz; subst hz; exact hK))); (conv => whnf)) | ((with_reducible apply gd_and); (focus ((conv => whnf); first | rfl | (intro K hK; (conv => whnf); first | exact hK | (intro z hz; rw [wrapI (by omega)] at hz; subst hz; exact hK)))); (conv => whnf)) | ((with_reducible apply z_wrap); (focus omega); (conv => whnf)) | ((with_reducible refine mt_dec (fun _ => ?_) (fun _ => ?_)) <;> (conv => whnf)) | ((with_reducible refine mt_eq (fun _ => ?_) (fun _ => ?_)) <;> (conv => whnf)) | ((with_reducible refine mt_ne (fun _ => ?_) (fun _ => ?_)) <;> (conv => whnf)) | ((with_reducible refine mt_not (fun _ => ?_) (fun _ => ?_)) <;> (conv => whnf)) | ((with_reducible refine mt_any (fun _ => ?_) (fun _ => ?_)) <;> (conv => whnf)))
        refine ⟨by have := crash_length (fs := pickFs ss d.dat.fs) (picks := picks) (show k ≤ (pickFs ss d.dat.fs).length by omega); rw [List.length_map, this]; simp only [List.length_cons, List.length_nil]; omega, ?_⟩
        conv => whnf
        repeat' (first | ((with_reducible apply rd_intro); (focus (intro K hK; (conv => whnf); first | exact hK | (intro z hz; rw [wrapI (by omega)] at hz; subst hz; exact hK))); (conv => whnf)) | ((with_reducible apply gd_and); (focus ((conv => whnf); first | rfl | (intro K hK; (conv => whnf); first | exact hK | (intro z hz; rw [wrapI (by omega)] at hz; subst hz; exact hK)))); (conv => whnf)) | ((with_reducible apply z_wrap); (focus omega); (conv => whnf)) | ((with_reducible refine mt_dec (fun _ => ?_) (fun _ => ?_)) <;> (conv => whnf)) | ((with_reducible refine mt_eq (fun _ => ?_) (fun _ => ?_)) <;> (conv => whnf)) | ((with_reducible refine mt_ne (fun _ => ?_) (fun _ => ?_)) <;> (conv => whnf)) | ((with_reducible refine mt_not (fun _ => ?_) (fun _ => ?_)) <;> (conv => whnf)) | ((with_reducible refine mt_any (fun _ => ?_) (fun _ => ?_)) <;> (conv => whnf)))
        refine ⟨k + 1, ?_, ?_, by omega, by omega⟩
        · rw [crashAt_succ hff, hst]; rfl
        · rw [crashAt_succ hff, hst, List.map_append]; rfl
    · conv => whnf
      obtain rfl : k = ss.length := by omega
      exact ⟨ss, hss', hr, rfl, rfl⟩
end Go.Proofs.Ytpedbknmkgcldaa

namespace Go.Proofs.Ytpedbknmkgcldaa
open Go.Ab Go.RowKit Go.MapKept
attribute [local irreducible] ACalls AW ADraw Into
set_option maxRecDepth 100000
theorem nums_tail (x : Int) (r : List Int) : ((nums (x :: r)).take ((nums (x :: r)).length : Int).toNat).drop (Int.toNat 1) = nums r := by
  rw [List.take_of_length_le (by simp)]
  rfl
set_option maxHeartbeats 4000000 in
theorem crash_ok (d : Dk) (hd : d.dat.fine) (picks : List Int) (hp : ∀ k ∈ picks, -9223372036854775808 ≤ k ∧ k < 9223372036854775808) (hpl : picks.length ≤ 140737488355328) :
    ACalls Try.prog 21 [.ptr 0 0, .d (.sl 1 (nums picks))] d.L (fun av L => ∃ ss : List ByteArray, ss.Perm (d.dat.fs.map FD.name) ∧ risingS ss ∧ av = .d (.sl 2 ((crashAt (pickFs ss d.dat.fs) picks ss.length).1.map FileS.cs)) ∧ L = d.L) := by
  refine acalls_go ttOk zOk foOk Try.func21 rfl Try.ntmps21 rfl false rfl ?_
  conv => whnf
  ((with_reducible refine (keys_ok _).mono ?_); rintro _ _ ⟨rfl, rfl⟩; (conv => whnf))
  refine (sorted_ok _ (d.fs.map Fl.name) (ent_keys _) (by have := hd.nd; rwa [show d.dat.fs = d.fs.map Fl.dat from rfl, dat_names] at this) (by have := hd.few; simp [Dk.dat] at this ⊢; omega) ?_).mono ?_
  · intro n hn
    obtain ⟨f, hf, rfl⟩ := List.mem_map.1 hn
    have := goodS_size (hd.good f.dat (List.mem_map.2 ⟨f, hf, rfl⟩))
    have h2 : (1000 : Nat) ≤ maxLen := by decide
    exact Nat.le_trans this h2
  rintro _ _ ⟨rfl, ss, hss, hr, rfl⟩
  have hss' : ss.Perm (d.dat.fs.map FD.name) := by rw [show d.dat.fs = d.fs.map Fl.dat from rfl, dat_names]; exact hss
  conv => whnf
  have hln : ss.length = d.fs.length := by have := hss.length_eq; simpa using this
  have hmem : ∀ n ∈ ss, n ∈ d.dat.fs.map FD.name := fun n hn => hss'.subset hn
  have hpk : (pickFs ss d.dat.fs).length = ss.length := by have := congrArg List.length (pick_names hmem); simpa using this
  have hfew : ss.length ≤ 16 := by have := hd.few; rw [hln]; simpa [Dk.dat] using this
  refine loop_go ttOk zOk foOk (σ := Nat) (fun k => ([(0, .ptr 0 0), (1, .d (.sl 1 (nums (crashAt (pickFs ss d.dat.fs) picks k).2))), (4, .arr 2), (17, .arr 3), (18, .d (.int .i64 (strs ss).length)), (19, .d (.int .i64 k))], d.L ++ [.row 36 2 ((crashAt (pickFs ss d.dat.fs) picks k).1.map FileS.cs) false, .row 9 1 (strs ss) false]))
    (fun k => k ≤ ss.length) (fun k => ss.length - k) [0, 1, 4, 17, 18, 19] ?_ ?_
  · conv => whnf
    exact ⟨0, rfl, rfl, by omega⟩
  · rintro k hk
    conv => whnf
    refine sp_dec (fun h => ?_) (fun h => ?_) <;> simp only [strs, List.length_map] at h
    · conv => whnf
      have hkl : k < ss.length := by omega
      obtain ⟨f, hff⟩ : ∃ f, (pickFs ss d.dat.fs)[k]? = some f := ⟨_, List.getElem?_eq_getElem (by omega)⟩
      obtain ⟨hnk, hget⟩ := pick_get hmem hff
      refine ⟨by omega, by simp [strs]; omega, ?_⟩
      conv => whnf
      refine ⟨[.str f.name], by simp [strs, hnk], ?_⟩
      conv => whnf
      obtain ⟨i, g, hgf, rfl⟩ := findF_of_get hget
      refine ⟨_, mfind_ent _ d.fs 0, ?_⟩
      rw [hgf]
      conv => whnf
      repeat' (first | ((with_reducible apply rd_intro); (focus (intro K hK; (conv => whnf); first | exact hK | (intro z hz; rw [wrapI (by omega)] at hz; subst hz; exact hK))); (conv => whnf)) | ((with_reducible apply gd_and); (focus ((conv => whnf); first | rfl | (intro K hK; (conv => whnf); first | exact hK | (intro z hz; rw [wrapI (by omega)] at hz; subst hz; exact hK)))); (conv => whnf)) | ((with_reducible apply z_wrap); (focus omega); (conv => whnf)) | ((with_reducible refine mt_dec (fun _ => ?_) (fun _ => ?_)) <;> (conv => whnf)) | ((with_reducible refine mt_eq (fun _ => ?_) (fun _ => ?_)) <;> (conv => whnf)) | ((with_reducible refine mt_ne (fun _ => ?_) (fun _ => ?_)) <;> (conv => whnf)) | ((with_reducible refine mt_not (fun _ => ?_) (fun _ => ?_)) <;> (conv => whnf)) | ((with_reducible refine mt_any (fun _ => ?_) (fun _ => ?_)) <;> (conv => whnf)))
      refine ⟨g.cs, box_at (findF_mem hgf), ?_⟩
      conv => whnf
      repeat' (first | ((with_reducible apply rd_intro); (focus (intro K hK; (conv => whnf); first | exact hK | (intro z hz; rw [wrapI (by omega)] at hz; subst hz; exact hK))); (conv => whnf)) | ((with_reducible apply gd_and); (focus ((conv => whnf); first | rfl | (intro K hK; (conv => whnf); first | exact hK | (intro z hz; rw [wrapI (by omega)] at hz; subst hz; exact hK)))); (conv => whnf)) | ((with_reducible apply z_wrap); (focus omega); (conv => whnf)) | ((with_reducible refine mt_dec (fun _ => ?_) (fun _ => ?_)) <;> (conv => whnf)) | ((with_reducible refine mt_eq (fun _ => ?_) (fun _ => ?_)) <;> (conv => whnf)) | ((with_reducible refine mt_ne (fun _ => ?_) (fun _ => ?_)) <;> (conv => whnf)) | ((with_reducible refine mt_not (fun _ => ?_) (fun _ => ?_)) <;> (conv => whnf)) | ((with_reducible refine mt_any (fun _ => ?_) (fun _ => ?_)) <;> (conv => whnf)))
      ((with_reducible refine draw_pl ttOk zOk foOk mixedOk pl21x6 ?_ ?_); (focus kernel_rfl); (conv => whnf))
      repeat' (first | ((with_reducible apply rd_intro); (focus (intro K hK; (conv => whnf); first | exact hK | (intro z hz; rw [wrapI (by omega)] at hz; subst hz; exact hK))); (conv => whnf)) | ((with_reducible apply gd_and); (focus ((conv => whnf); first | rfl | (intro K hK; (conv => whnf); first | exact hK | (intro z hz; rw [wrapI (by omega)] at hz; subst hz; exact hK)))); (conv => whnf)) | ((with_reducible apply z_wrap); (focus omega); (conv => whnf)) | ((with_reducible refine mt_dec (fun _ => ?_) (fun _ => ?_)) <;> (conv => whnf)) | ((with_reducible refine mt_eq (fun _ => ?_) (fun _ => ?_)) <;> (conv => whnf)) | ((with_reducible refine mt_ne (fun _ => ?_) (fun _ => ?_)) <;> (conv => whnf)) | ((with_reducible refine mt_not (fun _ => ?_) (fun _ => ?_)) <;> (conv => whnf)) | ((with_reducible refine mt_any (fun _ => ?_) (fun _ => ?_)) <;> (conv => whnf)))
      ((with_reducible apply rd_intro); (focus (intro K hK; (conv => whnf); exact ⟨g.cs, box_at (findF_mem hgf), hK⟩)); (conv => whnf))
      repeat' (first | ((with_reducible apply rd_intro); (focus (intro K hK; (conv => whnf); first | exact hK | (intro z hz; rw [wrapI (by omega)] at hz; subst hz; exact hK))); (conv => whnf)) | ((with_reducible apply gd_and); (focus ((conv => whnf); first | rfl | (intro K hK; (conv => whnf); first | exact hK | (intro z hz; rw [wrapI (by omega)] at hz; subst hz; exact hK)))); (conv => whnf)) | ((with_reducible apply z_wrap); (focus omega); (conv => whnf)) | ((with_reducible refine mt_dec (fun _ => ?_) (fun _ => ?_)) <;> (conv => whnf)) | ((with_reducible refine mt_eq (fun _ => ?_) (fun _ => ?_)) <;> (conv => whnf)) | ((with_reducible refine mt_ne (fun _ => ?_) (fun _ => ?_)) <;> (conv => whnf)) | ((with_reducible refine mt_not (fun _ => ?_) (fun _ => ?_)) <;> (conv => whnf)) | ((with_reducible refine mt_any (fun _ => ?_) (fun _ => ?_)) <;> (conv => whnf)))
      ((with_reducible apply rd_intro); (focus (intro K hK; (conv => whnf); exact ⟨g.cs, box_at (findF_mem hgf), hK⟩)); (conv => whnf))
      repeat' (first | ((with_reducible apply rd_intro); (focus (intro K hK; (conv => whnf); first | exact hK | (intro z hz; rw [wrapI (by omega)] at hz; subst hz; exact hK))); (conv => whnf)) | ((with_reducible apply gd_and); (focus ((conv => whnf); first | rfl | (intro K hK; (conv => whnf); first | exact hK | (intro z hz; rw [wrapI (by omega)] at hz; subst hz; exact hK)))); (conv => whnf)) | ((with_reducible apply z_wrap); (focus omega); (conv => whnf)) | ((with_reducible refine mt_dec (fun _ => ?_) (fun _ => ?_)) <;> (conv => whnf)) | ((with_reducible refine mt_eq (fun _ => ?_) (fun _ => ?_)) <;> (conv => whnf)) | ((with_reducible refine mt_ne (fun _ => ?_) (fun _ => ?_)) <;> (conv => whnf)) | ((with_reducible refine mt_not (fun _ => ?_) (fun _ => ?_)) <;> (conv => whnf)) | ((with_reducible refine mt_any (fun _ => ?_) (fun _ => ?_)) <;> (conv => whnf)))
      ((with_reducible refine (equal_ok g.safe g.seen).mono ?_); rintro _ _ ⟨rfl, rfl⟩; (conv => whnf))
      repeat' (first | ((with_reducible apply rd_intro); (focus (intro K hK; (conv => whnf); first | exact hK | (intro z hz; rw [wrapI (by omega)] at hz; subst hz; exact hK))); (conv => whnf)) | ((with_reducible apply gd_and); (focus ((conv => whnf); first | rfl | (intro K hK; (conv => whnf); first | exact hK | (intro z hz; rw [wrapI (by omega)] at hz; subst hz; exact hK)))); (conv => whnf)) | ((with_reducible apply z_wrap); (focus omega); (conv => whnf)) | ((with_reducible refine mt_dec (fun _ => ?_) (fun _ => ?_)) <;> (conv => whnf)) | ((with_reducible refine mt_eq (fun _ => ?_) (fun _ => ?_)) <;> (conv => whnf)) | ((with_reducible refine mt_ne (fun _ => ?_) (fun _ => ?_)) <;> (conv => whnf)) | ((with_reducible refine mt_not (fun _ => ?_) (fun _ => ?_)) <;> (conv => whnf)) | ((with_reducible refine mt_any (fun _ => ?_) (fun _ => ?_)) <;> (conv => whnf)))
      · rename_i h1 h2
        have hne : g.safe ≠ g.seen := by simp at h1; exact h1
        obtain ⟨x, r, hq⟩ : ∃ x r, (crashAt (pickFs ss d.dat.fs) picks k).2 = x :: r := by
          cases hc : (crashAt (pickFs ss d.dat.fs) picks k).2 with
          | nil => rw [hc] at h2; simp [nums] at h2
          | cons x r => exact ⟨x, r, rfl⟩
        have hx := hp x (crash_picks x (by rw [hq]; simp))
        rw [hq]
        have hnl : (nums (x :: r)).length = r.length + 1 := by simp [nums]
        ((with_reducible refine draw_pl ttOk zOk foOk mixedOk pl21x9 ?_ ?_); (focus kernel_rfl); (conv => whnf))
        repeat' (first | ((with_reducible apply rd_intro); (focus (intro K hK; (conv => whnf); first | exact hK | (intro z hz; rw [wrapI (by omega)] at hz; subst hz; exact hK))); (conv => whnf)) | ((with_reducible apply gd_and); (focus ((conv => whnf); first | rfl | (intro K hK; (conv => whnf); first | exact hK | (intro z hz; rw [wrapI (by omega)] at hz; subst hz; exact hK)))); (conv => whnf)) | ((with_reducible apply z_wrap); (focus omega); (conv => whnf)) | ((with_reducible refine mt_dec (fun _ => ?_) (fun _ => ?_)) <;> (conv => whnf)) | ((with_reducible refine mt_eq (fun _ => ?_) (fun _ => ?_)) <;> (conv => whnf)) | ((with_reducible refine mt_ne (fun _ => ?_) (fun _ => ?_)) <;> (conv => whnf)) | ((with_reducible refine mt_not (fun _ => ?_) (fun _ => ?_)) <;> (conv => whnf)) | ((with_reducible refine mt_any (fun _ => ?_) (fun _ => ?_)) <;> (conv => whnf)))
        ((with_reducible apply rd_intro); (focus (intro K hK; (conv => whnf); exact ⟨by decide, [.int .i64 x], rfl, hK⟩)); (conv => whnf))
        repeat' (first | ((with_reducible apply rd_intro); (focus (intro K hK; (conv => whnf); first | exact hK | (intro z hz; rw [wrapI (by omega)] at hz; subst hz; exact hK))); (conv => whnf)) | ((with_reducible apply gd_and); (focus ((conv => whnf); first | rfl | (intro K hK; (conv => whnf); first | exact hK | (intro z hz; rw [wrapI (by omega)] at hz; subst hz; exact hK)))); (conv => whnf)) | ((with_reducible apply z_wrap); (focus omega); (conv => whnf)) | ((with_reducible refine mt_dec (fun _ => ?_) (fun _ => ?_)) <;> (conv => whnf)) | ((with_reducible refine mt_eq (fun _ => ?_) (fun _ => ?_)) <;> (conv => whnf)) | ((with_reducible refine mt_ne (fun _ => ?_) (fun _ => ?_)) <;> (conv => whnf)) | ((with_reducible refine mt_not (fun _ => ?_) (fun _ => ?_)) <;> (conv => whnf)) | ((with_reducible refine mt_any (fun _ => ?_) (fun _ => ?_)) <;> (conv => whnf)))
        ((with_reducible apply rd_intro); (focus (intro K hK; (conv => whnf); exact ⟨by decide, by omega, by omega, hK⟩)); (conv => whnf))
        repeat' (first | ((with_reducible apply rd_intro); (focus (intro K hK; (conv => whnf); first | exact hK | (intro z hz; rw [wrapI (by omega)] at hz; subst hz; exact hK))); (conv => whnf)) | ((with_reducible apply gd_and); (focus ((conv => whnf); first | rfl | (intro K hK; (conv => whnf); first | exact hK | (intro z hz; rw [wrapI (by omega)] at hz; subst hz; exact hK)))); (conv => whnf)) | ((with_reducible apply z_wrap); (focus omega); (conv => whnf)) | ((with_reducible refine mt_dec (fun _ => ?_) (fun _ => ?_)) <;> (conv => whnf)) | ((with_reducible refine mt_eq (fun _ => ?_) (fun _ => ?_)) <;> (conv => whnf)) | ((with_reducible refine mt_ne (fun _ => ?_) (fun _ => ?_)) <;> (conv => whnf)) | ((with_reducible refine mt_not (fun _ => ?_) (fun _ => ?_)) <;> (conv => whnf)) | ((with_reducible refine mt_any (fun _ => ?_) (fun _ => ?_)) <;> (conv => whnf)))
        rw [show ((nums (x :: r)).take ((nums (x :: r)).length : Int).toNat).drop (Int.toNat 1) = nums r from nums_tail x r]
        refine (modulo_ok x 3 (by decide) (by decide) hx).mono ?_
        rintro _ _ ⟨rfl, rfl⟩
        conv => whnf
        have hneD : ¬ g.dat.safe = g.dat.seen := hne
        have hl1 : g.safe.length ≤ 1048576 := (hd.ok.len g.dat (mem_getN hget)).2
        have hl2 : g.seen.length ≤ 1048576 := (hd.ok.len g.dat (mem_getN hget)).1
        repeat' (first | ((with_reducible apply rd_intro); (focus (intro K hK; (conv => whnf); first | exact hK | (intro z hz; rw [wrapI (by omega)] at hz; subst hz; exact hK))); (conv => whnf)) | ((with_reducible apply gd_and); (focus ((conv => whnf); first | rfl | (intro K hK; (conv => whnf); first | exact hK | (intro z hz; rw [wrapI (by omega)] at hz; subst hz; exact hK)))); (conv => whnf)) | ((with_reducible apply z_wrap); (focus omega); (conv => whnf)) | ((with_reducible refine mt_dec (fun _ => ?_) (fun _ => ?_)) <;> (conv => whnf)) | ((with_reducible refine mt_eq (fun _ => ?_) (fun _ => ?_)) <;> (conv => whnf)) | ((with_reducible refine mt_ne (fun _ => ?_) (fun _ => ?_)) <;> (conv => whnf)) | ((with_reducible refine mt_not (fun _ => ?_) (fun _ => ?_)) <;> (conv => whnf)) | ((with_reducible refine mt_any (fun _ => ?_) (fun _ => ?_)) <;> (conv => whnf)))
        · rename_i hh
          have hst : stepC g.dat (crashAt (pickFs ss d.dat.fs) picks k).2 = (g.safe, r) := by
            rw [hq, stepC, if_neg hneD, if_pos (show headP (x :: r) % 3 = 0 from hh)]; rfl
          refine ⟨g.cs, box_at (findF_mem hgf), ?_⟩
          conv => whnf
          repeat' (first | ((with_reducible apply rd_intro); (focus (intro K hK; (conv => whnf); first | exact hK | (intro z hz; rw [wrapI (by omega)] at hz; subst hz; exact hK))); (conv => whnf)) | ((with_reducible apply gd_and); (focus ((conv => whnf); first | rfl | (intro K hK; (conv => whnf); first | exact hK | (intro z hz; rw [wrapI (by omega)] at hz; subst hz; exact hK)))); (conv => whnf)) | ((with_reducible apply z_wrap); (focus omega); (conv => whnf)) | ((with_reducible refine mt_dec (fun _ => ?_) (fun _ => ?_)) <;> (conv => whnf)) | ((with_reducible refine mt_eq (fun _ => ?_) (fun _ => ?_)) <;> (conv => whnf)) | ((with_reducible refine mt_ne (fun _ => ?_) (fun _ => ?_)) <;> (conv => whnf)) | ((with_reducible refine mt_not (fun _ => ?_) (fun _ => ?_)) <;> (conv => whnf)) | ((with_reducible refine mt_any (fun _ => ?_) (fun _ => ?_)) <;> (conv => whnf)))
          ((with_reducible refine (clone_ok g.safe (by omega)).mono ?_); rintro _ _ ⟨rfl, rfl⟩; (conv => whnf))
          repeat' (first | ((with_reducible apply rd_intro); (focus (intro K hK; (conv => whnf); first | exact hK | (intro z hz; rw [wrapI (by omega)] at hz; subst hz; exact hK))); (conv => whnf)) | ((with_reducible apply gd_and); (focus ((conv => whnf); first | rfl | (intro K hK; (conv => whnf); first | exact hK | (intro z hz; rw [wrapI (by omega)] at hz; subst hz; exact hK)))); (conv => whnf)) | ((with_reducible apply z_wrap); (focus omega); (conv => whnf)) | ((with_reducible refine mt_dec (fun _ => ?_) (fun _ => ?_)) <;> (conv => whnf)) | ((with_reducible refine mt_eq (fun _ => ?_) (fun _ => ?_)) <;> (conv => whnf)) | ((with_reducible refine mt_ne (fun _ => ?_) (fun _ => ?_)) <;> (conv => whnf)) | ((with_reducible refine mt_not (fun _ => ?_) (fun _ => ?_)) <;> (conv => whnf)) | ((with_reducible refine mt_any (fun _ => ?_) (fun _ => ?_)) <;> (conv => whnf)))
          refine ⟨by have := crash_length (fs := pickFs ss d.dat.fs) (picks := picks) (show k ≤ (pickFs ss d.dat.fs).length by omega); rw [List.length_map, this]; simp only [List.length_cons, List.length_nil]; omega, ?_⟩
          conv => whnf
          repeat' (first | ((with_reducible apply rd_intro); (focus (intro K hK; (conv => whnf); first | exact hK | (intro z hz; rw [wrapI (by omega)] at hz; subst hz; exact hK))); (conv => whnf)) | ((with_reducible apply gd_and); (focus ((conv => whnf); first | rfl | (intro K hK; (conv => whnf); first | exact hK | (intro z hz; rw [wrapI (by omega)] at hz; subst hz; exact hK)))); (conv => whnf)) | ((with_reducible apply z_wrap); (focus omega); (conv => whnf)) | ((with_reducible refine mt_dec (fun _ => ?_) (fun _ => ?_)) <;> (conv => whnf)) | ((with_reducible refine mt_eq (fun _ => ?_) (fun _ => ?_)) <;> (conv => whnf)) | ((with_reducible refine mt_ne (fun _ => ?_) (fun _ => ?_)) <;> (conv => whnf)) | ((with_reducible refine mt_not (fun _ => ?_) (fun _ => ?_)) <;> (conv => whnf)) | ((with_reducible refine mt_any (fun _ => ?_) (fun _ => ?_)) <;> (conv => whnf)))
          refine ⟨k + 1, ?_, ?_, by omega, by omega⟩
          · rw [crashAt_succ hff, hst]; rfl
          · rw [crashAt_succ hff, hst, List.map_append]; rfl
        · rename_i hh hh2
          have hst : stepC g.dat (crashAt (pickFs ss d.dat.fs) picks k).2 = (tornL g.safe g.seen (x / 3), r) := by
            rw [hq, stepC, if_neg hneD, if_neg (show ¬ headP (x :: r) % 3 = 0 from hh), if_pos (show headP (x :: r) % 3 = 2 from hh2)]; rfl
          refine (torn_ok d.fs g (findF_mem hgf) hl1 hl2 hne (x / 3) (by omega)).mono ?_
          rintro _ _ ⟨rfl, rfl⟩
          conv => whnf
          repeat' (first | ((with_reducible apply rd_intro); (focus (intro K hK; (conv => whnf); first | exact hK | (intro z hz; rw [wrapI (by omega)] at hz; subst hz; exact hK))); (conv => whnf)) | ((with_reducible apply gd_and); (focus ((conv => whnf); first | rfl | (intro K hK; (conv => whnf); first | exact hK | (intro z hz; rw [wrapI (by omega)] at hz; subst hz; exact hK)))); (conv => whnf)) | ((with_reducible apply z_wrap); (focus omega); (conv => whnf)) | ((with_reducible refine mt_dec (fun _ => ?_) (fun _ => ?_)) <;> (conv => whnf)) | ((with_reducible refine mt_eq (fun _ => ?_) (fun _ => ?_)) <;> (conv => whnf)) | ((with_reducible refine mt_ne (fun _ => ?_) (fun _ => ?_)) <;> (conv => whnf)) | ((with_reducible refine mt_not (fun _ => ?_) (fun _ => ?_)) <;> (conv => whnf)) | ((with_reducible refine mt_any (fun _ => ?_) (fun _ => ?_)) <;> (conv => whnf)))
          ((with_reducible refine (clone_ok (tornL g.safe g.seen (x / 3)) (by unfold tornL; rw [List.length_take]; omega)).mono ?_); rintro _ _ ⟨rfl, rfl⟩; (conv => whnf))
          repeat' (first | ((with_reducible apply rd_intro); (focus (intro K hK; (conv => whnf); first | exact hK | (intro z hz; rw [wrapI (by omega)] at hz; subst hz; exact hK))); (conv => whnf)) | ((with_reducible apply gd_and); (focus ((conv => whnf); first | rfl | (intro K hK; (conv => whnf); first | exact hK | (intro z hz; rw [wrapI (by omega)] at hz; subst hz; exact hK)))); (conv => whnf)) | ((with_reducible apply z_wrap); (focus omega); (conv => whnf)) | ((with_reducible refine mt_dec (fun _ => ?_) (fun _ => ?_)) <;> (conv => whnf)) | ((with_reducible refine mt_eq (fun _ => ?_) (fun _ => ?_)) <;> (conv => whnf)) | ((with_reducible refine mt_ne (fun _ => ?_) (fun _ => ?_)) <;> (conv => whnf)) | ((with_reducible refine mt_not (fun _ => ?_) (fun _ => ?_)) <;> (conv => whnf)) | ((with_reducible refine mt_any (fun _ => ?_) (fun _ => ?_)) <;> (conv => whnf)))
          refine ⟨by have := crash_length (fs := pickFs ss d.dat.fs) (picks := picks) (show k ≤ (pickFs ss d.dat.fs).length by omega); rw [List.length_map, this]; simp only [List.length_cons, List.length_nil]; omega, ?_⟩
          conv => whnf
          repeat' (first | ((with_reducible apply rd_intro); (focus (intro K hK; (conv => whnf); first | exact hK | (intro z hz; rw [wrapI (by omega)] at hz; subst hz; exact hK))); (conv => whnf)) | ((with_reducible apply gd_and); (focus ((conv => whnf); first | rfl | (intro K hK; (conv => whnf); first | exact hK | (intro z hz; rw [wrapI (by omega)] at hz; subst hz; exact hK)))); (conv => whnf)) | ((with_reducible apply z_wrap); (focus omega); (conv => whnf)) | ((with_reducible refine mt_dec (fun _ => ?_) (fun _ => ?_)) <;> (conv => whnf)) | ((with_reducible refine mt_eq (fun _ => ?_) (fun _ => ?_)) <;> (conv => whnf)) | ((with_reducible refine mt_ne (fun _ => ?_) (fun _ => ?_)) <;> (conv => whnf)) | ((with_reducible refine mt_not (fun _ => ?_) (fun _ => ?_)) <;> (conv => whnf)) | ((with_reducible refine mt_any (fun _ => ?_) (fun _ => ?_)) <;> (conv => whnf)))
          refine ⟨k + 1, ?_, ?_, by omega, by omega⟩
          · rw [crashAt_succ hff, hst]; rfl
          · rw [crashAt_succ hff, hst, List.map_append]; rfl
        · rename_i hh hh2
          have hst : stepC g.dat (crashAt (pickFs ss d.dat.fs) picks k).2 = (g.seen, r) := by
            rw [hq, stepC, if_neg hneD, if_neg (show ¬ headP (x :: r) % 3 = 0 from hh), if_neg (show ¬ headP (x :: r) % 3 = 2 from hh2)]; rfl
          ((with_reducible refine (clone_ok g.seen (by omega)).mono ?_); rintro _ _ ⟨rfl, rfl⟩; (conv => whnf))
          repeat' (first | ((with_reducible apply rd_intro); (focus (intro K hK; (conv => whnf); first | exact hK | (intro z hz; rw [wrapI (by omega)] at hz; subst hz; exact hK))); (conv => whnf)) | ((with_reducible apply gd_and); (focus ((conv => whnf); first | rfl | (intro K hK; (conv => whnf); first | exact hK | (intro z hz; rw [wrapI (by omega)] at hz; subst hz; exact hK)))); (conv => whnf)) | ((with_reducible apply z_wrap); (focus omega); (conv => whnf)) | ((with_reducible refine mt_dec (fun _ => ?_) (fun _ => ?_)) <;> (conv => whnf)) | ((with_reducible refine mt_eq (fun _ => ?_) (fun _ => ?_)) <;> (conv => whnf)) | ((with_reducible refine mt_ne (fun _ => ?_) (fun _ => ?_)) <;> (conv => whnf)) | ((with_reducible refine mt_not (fun _ => ?_) (fun _ => ?_)) <;> (conv => whnf)) | ((with_reducible refine mt_any (fun _ => ?_) (fun _ => ?_)) <;> (conv => whnf)))
          refine ⟨by have := crash_length (fs := pickFs ss d.dat.fs) (picks := picks) (show k ≤ (pickFs ss d.dat.fs).length by omega); rw [List.length_map, this]; simp only [List.length_cons, List.length_nil]; omega, ?_⟩
          conv => whnf
          repeat' (first | ((with_reducible apply rd_intro); (focus (intro K hK; (conv => whnf); first | exact hK | (intro z hz; rw [wrapI (by omega)] at hz; subst hz; exact hK))); (conv => whnf)) | ((with_reducible apply gd_and); (focus ((conv => whnf); first | rfl | (intro K hK; (conv => whnf); first | exact hK | (intro z hz; rw [wrapI (by omega)] at hz; subst hz; exact hK)))); (conv => whnf)) | ((with_reducible apply z_wrap); (focus omega); (conv => whnf)) | ((with_reducible refine mt_dec (fun _ => ?_) (fun _ => ?_)) <;> (conv => whnf)) | ((with_reducible refine mt_eq (fun _ => ?_) (fun _ => ?_)) <;> (conv => whnf)) | ((with_reducible refine mt_ne (fun _ => ?_) (fun _ => ?_)) <;> (conv => whnf)) | ((with_reducible refine mt_not (fun _ => ?_) (fun _ => ?_)) <;> (conv => whnf)) | ((with_reducible refine mt_any (fun _ => ?_) (fun _ => ?_)) <;> (conv => whnf)))
          refine ⟨k + 1, ?_, ?_, by omega, by omega⟩
          · rw [crashAt_succ hff, hst]; rfl
          · rw [crashAt_succ hff, hst, List.map_append]; rfl
      · rename_i h1 h2
        have hne : g.safe ≠ g.seen := by simp at h1; exact h1
        have hq : (crashAt (pickFs ss d.dat.fs) picks k).2 = [] := by
          cases hc : (crashAt (pickFs ss d.dat.fs) picks k).2 with
          | nil => rfl
          | cons x r => rw [hc] at h2; simp [nums] at h2
        rw [hq]
        refine (modulo_ok 0 3 (by decide) (by decide) (by decide)).mono ?_
        rintro _ _ ⟨rfl, rfl⟩
        conv => whnf
        have hneD : ¬ g.dat.safe = g.dat.seen := hne
        have hl1 : g.safe.length ≤ 1048576 := (hd.ok.len g.dat (mem_getN hget)).2
        have hl2 : g.seen.length ≤ 1048576 := (hd.ok.len g.dat (mem_getN hget)).1
        repeat' (first | ((with_reducible apply rd_intro); (focus (intro K hK; (conv => whnf); first | exact hK | (intro z hz; rw [wrapI (by omega)] at hz; subst hz; exact hK))); (conv => whnf)) | ((with_reducible apply gd_and); (focus ((conv => whnf); first | rfl | (intro K hK; (conv => whnf); first | exact hK | (intro z hz; rw [wrapI (by omega)] at hz; subst hz; exact hK)))); (conv => whnf)) | ((with_reducible apply z_wrap); (focus omega); (conv => whnf)) | ((with_reducible refine mt_dec (fun _ => ?_) (fun _ => ?_)) <;> (conv => whnf)) | ((with_reducible refine mt_eq (fun _ => ?_) (fun _ => ?_)) <;> (conv => whnf)) | ((with_reducible refine mt_ne (fun _ => ?_) (fun _ => ?_)) <;> (conv => whnf)) | ((with_reducible refine mt_not (fun _ => ?_) (fun _ => ?_)) <;> (conv => whnf)) | ((with_reducible refine mt_any (fun _ => ?_) (fun _ => ?_)) <;> (conv => whnf)))
        have hst : stepC g.dat (crashAt (pickFs ss d.dat.fs) picks k).2 = (g.safe, []) := by
          rw [hq, stepC, if_neg hneD, if_pos (show headP ([] : List Int) % 3 = 0 from rfl)]; rfl
        refine ⟨g.cs, box_at (findF_mem hgf), ?_⟩
        conv => whnf
        repeat' (first | ((with_reducible apply rd_intro); (focus (intro K hK; (conv => whnf); first | exact hK | (intro z hz; rw [wrapI (by omega)] at hz; subst hz; exact hK))); (conv => whnf)) | ((with_reducible apply gd_and); (focus ((conv => whnf); first | rfl | (intro K hK; (conv => whnf); first | exact hK | (intro z hz; rw [wrapI (by omega)] at hz; subst hz; exact hK)))); (conv => whnf)) | ((with_reducible apply z_wrap); (focus omega); (conv => whnf)) | ((with_reducible refine mt_dec (fun _ => ?_) (fun _ => ?_)) <;> (conv => whnf)) | ((with_reducible refine mt_eq (fun _ => ?_) (fun _ => ?_)) <;> (conv => whnf)) | ((with_reducible refine mt_ne (fun _ => ?_) (fun _ => ?_)) <;> (conv => whnf)) | ((with_reducible refine mt_not (fun _ => ?_) (fun _ => ?_)) <;> (conv => whnf)) | ((with_reducible refine mt_any (fun _ => ?_) (fun _ => ?_)) <;> (conv => whnf)))
        ((with_reducible refine (clone_ok g.safe (by omega)).mono ?_); rintro _ _ ⟨rfl, rfl⟩; (conv => whnf))
        repeat' (first | ((with_reducible apply rd_intro); (focus (intro K hK; (conv => whnf); first | exact hK | (intro z hz; rw [wrapI (by omega)] at hz; subst hz; exact hK))); (conv => whnf)) | ((with_reducible apply gd_and); (focus ((conv => whnf); first | rfl | (intro K hK; (conv => whnf); first | exact hK | (intro z hz; rw [wrapI (by omega)] at hz; subst hz; exact hK)))); (conv => whnf)) | ((with_reducible apply z_wrap); (focus omega); (conv => whnf)) | ((with_reducible refine mt_dec (fun _ => ?_) (fun _ => ?_)) <;> (conv => whnf)) | ((with_reducible refine mt_eq (fun _ => ?_) (fun _ => ?_)) <;> (conv => whnf)) | ((with_reducible refine mt_ne (fun _ => ?_) (fun _ => ?_)) <;> (conv => whnf)) | ((with_reducible refine mt_not (fun _ => ?_) (fun _ => ?_)) <;> (conv => whnf)) | ((with_reducible refine mt_any (fun _ => ?_) (fun _ => ?_)) <;> (conv => whnf)))
        refine ⟨by have := crash_length (fs := pickFs ss d.dat.fs) (picks := picks) (show k ≤ (pickFs ss d.dat.fs).length by omega); rw [List.length_map, this]; simp only [List.length_cons, List.length_nil]; omega, ?_⟩
        conv => whnf
        repeat' (first | ((with_reducible apply rd_intro); (focus (intro K hK; (conv => whnf); first | exact hK | (intro z hz; rw [wrapI (by omega)] at hz; subst hz; exact hK))); (conv => whnf)) | ((with_reducible apply gd_and); (focus ((conv => whnf); first | rfl | (intro K hK; (conv => whnf); first | exact hK | (intro z hz; rw [wrapI (by omega)] at hz; subst hz; exact hK)))); (conv => whnf)) | ((with_reducible apply z_wrap); (focus omega); (conv => whnf)) | ((with_reducible refine mt_dec (fun _ => ?_) (fun _ => ?_)) <;> (conv => whnf)) | ((with_reducible refine mt_eq (fun _ => ?_) (fun _ => ?_)) <;> (conv => whnf)) | ((with_reducible refine mt_ne (fun _ => ?_) (fun _ => ?_)) <;> (conv => whnf)) | ((with_reducible refine mt_not (fun _ => ?_) (fun _ => ?_)) <;> (conv => whnf)) | ((with_reducible refine mt_any (fun _ => ?_) (fun _ => ?_)) <;> (conv => whnf)))
        refine ⟨k + 1, ?_, ?_, by omega, by omega⟩
        · rw [crashAt_succ hff, hst]; rfl
        · rw [crashAt_succ hff, hst, List.map_append]; rfl
      · have hlen : g.seen.length ≤ 1048576 := (hd.ok.len g.dat (mem_getN hget)).1
        have heq : g.dat.safe = g.dat.seen := by rename_i h1; simp at h1; exact h1
        have hst : stepC g.dat (crashAt (pickFs ss d.dat.fs) picks k).2 = (g.seen, (crashAt (pickFs ss d.dat.fs) picks k).2) := by rw [stepC, if_pos heq]; rfl
        ((with_reducible refine (clone_ok g.seen (by omega)).mono ?_); rintro _ _ ⟨rfl, rfl⟩; (conv => whnf))
        repeat' (first | ((with_reducible apply rd_intro); (focus (intro K hK; (conv => whnf); first | exact hK | (intro z hz; rw [wrapI (by omega)] at hz; subst hz; exact hK))); (conv => whnf)) | ((with_reducible apply gd_and); (focus ((conv => whnf); first | rfl | (intro K hK; (conv => whnf); first | exact hK | (intro z hz; rw [wrapI (by omega)] at hz; subst hz; exact hK)))); (conv => whnf)) | ((with_reducible apply z_wrap); (focus omega); (conv => whnf)) | ((with_reducible refine mt_dec (fun _ => ?_) (fun _ => ?_)) <;> (conv => whnf)) | ((with_reducible refine mt_eq (fun _ => ?_) (fun _ => ?_)) <;> (conv => whnf)) | ((with_reducible refine mt_ne (fun _ => ?_) (fun _ => ?_)) <;> (conv => whnf)) | ((with_reducible refine mt_not (fun _ => ?_) (fun _ => ?_)) <;> (conv => whnf)) | ((with_reducible refine mt_any (fun _ => ?_) (fun _ => ?_)) <;> (conv => whnf)))
        refine ⟨by have := crash_length (fs := pickFs ss d.dat.fs) (picks := picks) (show k ≤ (pickFs ss d.dat.fs).length by omega); rw [List.length_map, this]; simp only [List.length_cons, List.length_nil]; omega, ?_⟩
        conv => whnf
        repeat' (first | ((with_reducible apply rd_intro); (focus (intro K hK; (conv => whnf); first | exact hK | (intro z hz; rw [wrapI (by omega)] at hz; subst hz; exact hK))); (conv => whnf)) | ((with_reducible apply gd_and); (focus ((conv => whnf); first | rfl | (intro K hK; (conv => whnf); first | exact hK | (intro z hz; rw [wrapI (by omega)] at hz; subst hz; exact hK)))); (conv => whnf)) | ((with_reducible apply z_wrap); (focus omega); (conv => whnf)) | ((with_reducible refine mt_dec (fun _ => ?_) (fun _ => ?_)) <;> (conv => whnf)) | ((with_reducible refine mt_eq (fun _ => ?_) (fun _ => ?_)) <;> (conv => whnf)) | ((with_reducible refine mt_ne (fun _ => ?_) (fun _ => ?_)) <;> (conv => whnf)) | ((with_reducible refine mt_not (fun _ => ?_) (fun _ => ?_)) <;> (conv => whnf)) | ((with_reducible refine mt_any (fun _ => ?_) (fun _ => ?_)) <;> (conv => whnf)))
        refine ⟨k + 1, ?_, ?_, by omega, by omega⟩
        · rw [crashAt_succ hff, hst]; rfl
        · rw [crashAt_succ hff, hst, List.map_append]; rfl
    · conv => whnf
      obtain rfl : k = ss.length := by omega
      exact ⟨ss, hss', hr, rfl, rfl⟩
end Go.Proofs.Ytpedbknmkgcldaa

namespace Go.Proofs.Ytpedbknmkgcldaa
open Go.Ab Go.RowKit Go.MapKept
attribute [local irreducible] ACalls AW ADraw Into
set_option maxRecDepth 100000
theorem crash_may {d : DD} (hd : d.fine) {ss : List ByteArray} (hss : ss.Perm (d.fs.map FD.name)) (hrs : risingS ss) (picks : List Int) :
    let l := (crashAt (pickFs ss d.fs) picks ss.length).1
    mayNew l = true ∧ l.length ≤ 16 ∧ (∀ f ∈ l, f.data.length ≤ 1048576) ∧ (newDD l).fine := by
  intro l
  have hmem : ∀ n ∈ ss, n ∈ d.fs.map FD.name := fun n hn => hss.subset hn
  have hpn := pick_names hmem
  have hpk : (pickFs ss d.fs).length = ss.length := by have := congrArg List.length hpn; simpa using this
  have hln : ss.length ≤ 16 := by have := hss.length_eq; have := hd.few; simp at *; omega
  have hnames : l.map FileS.name = ss := by
    show (crashAt _ _ _).1.map FileS.name = ss
    rw [crash_names (by omega), ← hpk, List.take_length, hpn]
  have hlen : l.length = ss.length := by have := congrArg List.length hnames; simpa using this
  have hdat : ∀ f ∈ l, f.data.length ≤ 1048576 := crash_len (fun f hf => by
    unfold pickFs at hf
    obtain ⟨n, _, hg⟩ := List.mem_filterMap.1 hf
    have := hd.ok.len f (mem_getN hg)
    exact ⟨this.2, this.1⟩)
  have hgood : ∀ f ∈ l, goodS f.name = true := fun f hf => by
    have h1 : f.name ∈ ss := by rw [← hnames]; exact List.mem_map.2 ⟨f, hf, rfl⟩
    obtain ⟨g, hg, e⟩ := List.mem_map.1 (hmem _ h1)
    rw [← e]; exact hd.good g hg
  refine ⟨mayNew_of hgood hdat (by rw [hnames]; exact hrs) (by omega), by omega, hdat, ?_⟩
  refine ⟨⟨?_⟩, ?_, ?_, ?_⟩
  · intro f hf
    obtain ⟨g, hg, rfl⟩ := List.mem_map.1 hf
    exact ⟨hdat g hg, hdat g hg⟩
  · show ((l.map fun f => (⟨f.name, f.data, f.data⟩ : FD)).map FD.name).Nodup
    rw [List.map_map]
    show (l.map FileS.name).Nodup
    rw [hnames]
    exact rising_nodup hrs
  · intro f hf
    obtain ⟨g, hg, rfl⟩ := List.mem_map.1 hf
    exact hgood g hg
  · show (l.map _).length ≤ 16
    rw [List.length_map]; omega
def Dk.at2 (d : Dk) : List AB := [.cells [.d (.int .i64 d.calls), .d (.bool d.off), .d (.int .i64 d.upto), .map 3], .map (d.fs.map Fl.ent)]
theorem again_ok (d : Dk) (hd : d.dat.fine) (picks : List Int) (hp : ∀ k ∈ picks, -9223372036854775808 ≤ k ∧ k < 9223372036854775808) (hpl : picks.length ≤ 140737488355328) :
    ACalls Try.prog 51 [.ptr 0 0, .d (.sl 1 (nums picks))] d.L (fun av L => ∃ (ss : List ByteArray) (d2 : Dk), ss.Perm (d.dat.fs.map FD.name) ∧ risingS ss ∧ d2.dat = newDD (crashAt (pickFs ss d.dat.fs) picks ss.length).1 ∧ d2.dat.fine ∧ av = .ptr 2 0 ∧ L = d.L ++ d2.at2) := by
  refine acalls_go ttOk zOk foOk Try.func51 rfl Try.ntmps51 rfl true rfl ?_
  conv => whnf
  repeat' (first | ((with_reducible apply z_wrap); (focus omega); (conv => whnf)) | ((with_reducible refine mt_dec (fun _ => ?_) (fun _ => ?_)) <;> (conv => whnf)) | ((with_reducible refine mt_eq (fun _ => ?_) (fun _ => ?_)) <;> (conv => whnf)) | ((with_reducible refine mt_ne (fun _ => ?_) (fun _ => ?_)) <;> (conv => whnf)) | ((with_reducible refine mt_not (fun _ => ?_) (fun _ => ?_)) <;> (conv => whnf)) | ((with_reducible refine mt_any (fun _ => ?_) (fun _ => ?_)) <;> (conv => whnf)))
  refine (crash_ok d hd picks hp hpl).mono ?_
  rintro _ _ ⟨ss, hss, hrs, rfl, rfl⟩
  obtain ⟨hmay, hl16, hdl, hfine⟩ := crash_may hd hss hrs picks
  obtain ⟨l, hl⟩ : ∃ l, (crashAt (pickFs ss d.dat.fs) picks ss.length).1 = l := ⟨_, rfl⟩
  rw [hl] at hmay hl16 hdl hfine ⊢
  conv => whnf
  repeat' (first | ((with_reducible apply z_wrap); (focus omega); (conv => whnf)) | ((with_reducible refine mt_dec (fun _ => ?_) (fun _ => ?_)) <;> (conv => whnf)) | ((with_reducible refine mt_eq (fun _ => ?_) (fun _ => ?_)) <;> (conv => whnf)) | ((with_reducible refine mt_ne (fun _ => ?_) (fun _ => ?_)) <;> (conv => whnf)) | ((with_reducible refine mt_not (fun _ => ?_) (fun _ => ?_)) <;> (conv => whnf)) | ((with_reducible refine mt_any (fun _ => ?_) (fun _ => ?_)) <;> (conv => whnf)))
  refine (new_ok l (fun f hf => by have := hdl f hf; omega) (by omega)).mono ?_
  rintro _ _ ⟨hn1, _⟩
  obtain ⟨rfl, fs, rfl, hfs⟩ := hn1 hmay
  have hx := newFl_dat hfs
  clear hn1
  conv => whnf
  ((with_reducible refine (num10_ok 0).mono ?_); rintro _ _ ⟨rfl, rfl⟩; (conv => whnf))
  repeat' (first | ((with_reducible apply z_wrap); (focus omega); (conv => whnf)) | ((with_reducible refine mt_dec (fun _ => ?_) (fun _ => ?_)) <;> (conv => whnf)) | ((with_reducible refine mt_eq (fun _ => ?_) (fun _ => ?_)) <;> (conv => whnf)) | ((with_reducible refine mt_ne (fun _ => ?_) (fun _ => ?_)) <;> (conv => whnf)) | ((with_reducible refine mt_not (fun _ => ?_) (fun _ => ?_)) <;> (conv => whnf)) | ((with_reducible refine mt_any (fun _ => ?_) (fun _ => ?_)) <;> (conv => whnf)))
  exact ⟨ss, Dk.mk 0 false 0 fs, hss, hrs, by rw [hx, hl], by rw [hx]; exact hfine, rfl, rfl⟩
end Go.Proofs.Ytpedbknmkgcldaa
