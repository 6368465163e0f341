/- Part of the proof of AuditShuffles: the contracts of the functions. -/
import Derived.Test.YtoeppembokpjkaaGreatAuditShufflesCodE

set_option linter.unusedVariables false
set_option linter.unusedSimpArgs false
namespace Go.Proofs.YtoeppembokpjkaaGreat
open Go.Ab Go.RowKit Go.MapKept
attribute [local irreducible] ACalls AW ADraw Into fltB fnear
set_option maxRecDepth 100000
end Go.Proofs.YtoeppembokpjkaaGreat

namespace Go.Proofs.YtoeppembokpjkaaGreat
open Go.Ab Go.RowKit Go.MapKept
attribute [local irreducible] ACalls AW ADraw Into fltB fnear
set_option maxRecDepth 100000
end Go.Proofs.YtoeppembokpjkaaGreat

namespace Go.Proofs.YtoeppembokpjkaaGreat
open Go.Ab Go.RowKit Go.MapKept
attribute [local irreducible] ACalls AW ADraw Into fltB fnear
set_option maxRecDepth 100000
end Go.Proofs.YtoeppembokpjkaaGreat

namespace Go.Proofs.YtoeppembokpjkaaGreat
open Go.Ab Go.RowKit Go.MapKept
attribute [local irreducible] ACalls AW ADraw Into fltB fnear
set_option maxRecDepth 100000
def c0 : Cursor := ⟨0, [], 0⟩
theorem c0_may : curMay c0 := by
  exact ⟨by decide, ⟨List.Pairwise.nil, by simp [c0]⟩, by decide⟩
end Go.Proofs.YtoeppembokpjkaaGreat

namespace Go.Proofs.YtoeppembokpjkaaGreat
open Go.Ab Go.RowKit Go.MapKept
attribute [local irreducible] ACalls AW ADraw Into fltB fnear
set_option maxRecDepth 100000
structure mayP (d : Dag) (j : Nat) : Prop where
  ok : ∀ c ∈ d.certs.take j, okCert d.nodes c ∧ d.low < c.round ∧ lacksI d c = []
  sorted : sortedC (d.certs.take j)
  dig : ((d.certs.take j).map (·.digest)).Nodup
theorem take_snoc {α : Type} {l : List α} {j : Nat} {c : α} (hc : l[j]? = some c) : l.take (j + 1) = l.take j ++ [c] := by rw [List.take_add_one, hc]; rfl
theorem mayP.next {d : Dag} {j : Nat} (h : mayP d j) {c : Cert} (hc : d.certs[j]? = some c) (h1 : okCert d.nodes c) (h2 : d.low < c.round) (h3 : lacksI d c = []) (h4 : ∀ c0, 0 < j → d.certs[j - 1]? = some c0 → c0.before c.round c.author = true) (h5 : ∀ x ∈ d.certs.take j, x.digest ≠ c.digest) : mayP d (j + 1) := by
  have e := take_snoc hc
  refine ⟨?_, ?_, ?_⟩
  · rw [e]
    intro y hy
    rcases List.mem_append.1 hy with hy | hy
    · exact h.ok y hy
    · simp at hy; rw [hy]; exact ⟨h1, h2, h3⟩
  · rw [e]
    refine List.pairwise_append.2 ⟨h.sorted, by simp, fun x hx y hy => ?_⟩
    simp at hy
    rw [hy]
    obtain ⟨i, hi, rfl⟩ := List.mem_take_iff_getElem.1 hx
    have hil : i < j := by omega
    have hjl := (List.getElem?_eq_some_iff.1 hc).1
    have hp : d.certs[j - 1]? = some d.certs[j - 1] := List.getElem?_eq_getElem (by omega)
    have hb := h4 _ (by omega) hp
    rcases Nat.lt_or_ge i (j - 1) with hlt | hge
    · have h6 := List.pairwise_iff_getElem.1 h.sorted i (j - 1) (by rw [List.length_take]; omega) (by rw [List.length_take]; omega) hlt
      rw [List.getElem_take, List.getElem_take] at h6
      have h7 := before_iff.1 h6
      have h8 := before_iff.1 hb
      exact before_iff.2 (by omega)
    · have : i = j - 1 := by omega
      subst this
      exact hb
  · rw [e, List.map_append, List.nodup_append]
    refine ⟨h.dig, by simp, fun a ha b hb => ?_⟩
    obtain ⟨x, hx, rfl⟩ := List.mem_map.1 ha
    simp at hb
    rw [hb]
    exact h5 x hx
end Go.Proofs.YtoeppembokpjkaaGreat

namespace Go.Proofs.YtoeppembokpjkaaGreat
open Go.Ab Go.RowKit Go.MapKept
attribute [local irreducible] ACalls AW ADraw Into fltB fnear
set_option maxRecDepth 100000
theorem headW_ok (c : Cert) (h : c.ok) : ACalls Tryz.prog 114 [c.hav] [] (fun av L => av = .d (.int .i64 (1 + c.bats.length + c.pars.length)) ∧ L = []) := by
  have h1 := h.bats.1
  have h2 := h.pars.1
  unfold few at h1 h2
  have e1 := nums_length c.bats
  have e2 := nums_length c.pars
  refine acalls_go ttOk zOk foOk Tryz.func114 rfl Tryz.ntmps114 rfl false rfl ?_
  conv => whnf
  rw [e1]
  repeat' (first | ((with_reducible apply rd_intro); (focus (intro K hK; (conv => whnf); first | exact hK | (intro z hz; rw [wrapI (by omega)] at hz; subst hz; exact hK))); (conv => whnf)) | ((with_reducible apply gd_and); (focus ((conv => whnf) <;> first | rfl | (intro K hK; (conv => whnf); first | exact hK | (intro z hz; rw [wrapI (by omega)] at hz; subst hz; exact hK)))); (conv => whnf)) | ((with_reducible apply z_wrap); (focus omega); (conv => whnf)) | ((with_reducible first | apply mt_dec | apply mt_eq | apply mt_ne | apply mt_not | apply mt_any) <;> (intro _; conv => whnf)))
  rw [e2]
  repeat' (first | ((with_reducible apply rd_intro); (focus (intro K hK; (conv => whnf); first | exact hK | (intro z hz; rw [wrapI (by omega)] at hz; subst hz; exact hK))); (conv => whnf)) | ((with_reducible apply gd_and); (focus ((conv => whnf) <;> first | rfl | (intro K hK; (conv => whnf); first | exact hK | (intro z hz; rw [wrapI (by omega)] at hz; subst hz; exact hK)))); (conv => whnf)) | ((with_reducible apply z_wrap); (focus omega); (conv => whnf)) | ((with_reducible first | apply mt_dec | apply mt_eq | apply mt_ne | apply mt_not | apply mt_any) <;> (intro _; conv => whnf)))
  exact ⟨rfl, rfl⟩
theorem certW_ok (c : Cert) (h : c.ok) : ACalls Tryz.prog 85 [c.av] [] (fun av L => av = .d (.int .i64 (1 + c.bats.length + c.pars.length + c.sigs.length)) ∧ L = []) := by
  have h1 := h.bats.1
  have h2 := h.pars.1
  have h3 := h.sigs.1
  unfold few at h1 h2 h3
  have e3 := nums_length c.sigs
  refine acalls_go ttOk zOk foOk Tryz.func85 rfl Tryz.ntmps85 rfl false rfl ?_
  conv => whnf
  ((with_reducible refine draw_pl ttOk zOk foOk mixedOk pl85x1 ?_ ?_); (focus kernel_rfl); (conv => whnf))
  repeat' (first | ((with_reducible apply rd_intro); (focus (intro K hK; (conv => whnf); first | exact hK | (intro z hz; rw [wrapI (by omega)] at hz; subst hz; exact hK))); (conv => whnf)) | ((with_reducible apply gd_and); (focus ((conv => whnf) <;> first | rfl | (intro K hK; (conv => whnf); first | exact hK | (intro z hz; rw [wrapI (by omega)] at hz; subst hz; exact hK)))); (conv => whnf)) | ((with_reducible apply z_wrap); (focus omega); (conv => whnf)) | ((with_reducible first | apply mt_dec | apply mt_eq | apply mt_ne | apply mt_not | apply mt_any) <;> (intro _; conv => whnf)))
  refine (headW_ok c h).mono ?_
  rintro _ _ ⟨rfl, rfl⟩
  conv => whnf
  repeat' (first | ((with_reducible apply rd_intro); (focus (intro K hK; (conv => whnf); first | exact hK | (intro z hz; rw [wrapI (by omega)] at hz; subst hz; exact hK))); (conv => whnf)) | ((with_reducible apply gd_and); (focus ((conv => whnf) <;> first | rfl | (intro K hK; (conv => whnf); first | exact hK | (intro z hz; rw [wrapI (by omega)] at hz; subst hz; exact hK)))); (conv => whnf)) | ((with_reducible apply z_wrap); (focus omega); (conv => whnf)) | ((with_reducible first | apply mt_dec | apply mt_eq | apply mt_ne | apply mt_not | apply mt_any) <;> (intro _; conv => whnf)))
  rw [e3]
  repeat' (first | ((with_reducible apply rd_intro); (focus (intro K hK; (conv => whnf); first | exact hK | (intro z hz; rw [wrapI (by omega)] at hz; subst hz; exact hK))); (conv => whnf)) | ((with_reducible apply gd_and); (focus ((conv => whnf) <;> first | rfl | (intro K hK; (conv => whnf); first | exact hK | (intro z hz; rw [wrapI (by omega)] at hz; subst hz; exact hK)))); (conv => whnf)) | ((with_reducible apply z_wrap); (focus omega); (conv => whnf)) | ((with_reducible first | apply mt_dec | apply mt_eq | apply mt_ne | apply mt_not | apply mt_any) <;> (intro _; conv => whnf)))
  exact ⟨rfl, rfl⟩
end Go.Proofs.YtoeppembokpjkaaGreat

namespace Go.Proofs.YtoeppembokpjkaaGreat
open Go.Ab Go.RowKit Go.MapKept
attribute [local irreducible] ACalls AW ADraw Into fltB fnear
set_option maxRecDepth 100000
theorem Valid.tiny {d : Dag} (h : Valid d) : Go.Proofs.YtoeppembokpjkaaGreat.tiny d.certs ∧ ∀ c ∈ d.certs, c.tiny := by
  have hn := of_decide_eq_true h.nodes
  refine ⟨by have := h.len; unfold Go.Proofs.YtoeppembokpjkaaGreat.tiny; omega, fun c hc => ?_⟩
  have h1 := h.certs c hc
  refine ⟨?_, ?_, ?_⟩
  · have := h1.head.bats.1; unfold Go.Proofs.YtoeppembokpjkaaGreat.tiny; omega
  · have := h1.head.pars.1; unfold Go.Proofs.YtoeppembokpjkaaGreat.tiny; omega
  · have := rise_len2 (show riseB c.sigs 1 65536 from ⟨h1.sigs.1, fun x hx => by have := h1.sigs.2 x hx; omega⟩)
    unfold Go.Proofs.YtoeppembokpjkaaGreat.tiny; omega
end Go.Proofs.YtoeppembokpjkaaGreat

namespace Go.Proofs.YtoeppembokpjkaaGreat
open Go.Ab Go.RowKit Go.MapKept
attribute [local irreducible] ACalls AW ADraw Into fltB fnear
set_option maxRecDepth 100000
/-! ## cursor.Step of a DAG that may be, its low 0 -/
def outs (d : Dag) : List Int := (finW d c0).outs
theorem Valid.part {d : Dag} (h : Valid d) (h0 : d.low = 0) (n : Nat) : Valid ⟨d.nodes, 0, d.certs.take n⟩ := by
  have hm : ∀ c ∈ d.certs.take n, c ∈ d.certs := fun c hc => List.mem_of_mem_take hc
  refine ⟨h.nodes, by show (0 : Int) ≤ 0 ∧ (0 : Int) ≤ 1099511627776; decide, by show (d.certs.take n).length ≤ 65536; have := h.len; have := List.length_take_le' n d.certs; omega, fun c hc => h.certs c (hm c hc), fun c hc => by have := h.above c (hm c hc); rw [h0] at this; exact this, h.sorted.sublist (List.take_sublist ..), h.dig.sublist ((List.take_sublist ..).map _), ?_⟩
  intro c hc hr x hx
  obtain ⟨c', h1, h2, h3⟩ := h.here c (hm c hc) (by rw [h0]; exact hr) x hx
  refine ⟨c', ?_, h2, h3⟩
  obtain ⟨i, hi, rfl⟩ := List.mem_take_iff_getElem.1 hc
  obtain ⟨k, hk⟩ := List.getElem?_of_mem h1
  obtain ⟨hkl, rfl⟩ := List.getElem?_eq_some_iff.1 hk
  refine List.mem_take_iff_getElem.2 ⟨k, ?_, rfl⟩
  rcases Nat.lt_trichotomy k i with h4 | h4 | h4
  · omega
  · subst h4; omega
  · have := List.pairwise_iff_getElem.1 h.sorted i k (by omega) hkl h4
    have := before_iff.1 this
    omega
theorem Sub.part {d : Dag} (h : Valid d) (h0 : d.low = 0) (n : Nat) : Sub ⟨d.nodes, 0, d.certs.take n⟩ d := ⟨h.part h0 n, h, rfl, h0, rfl, List.take_sublist ..⟩
end Go.Proofs.YtoeppembokpjkaaGreat

namespace Go.Proofs.YtoeppembokpjkaaGreat
open Go.Ab Go.RowKit Go.MapKept
attribute [local irreducible] ACalls AW ADraw Into fltB fnear
set_option maxRecDepth 100000
theorem fin_len {d : Dag} (h : Valid d) : (finW d c0).outs.length ≤ 4294967296 := (goF_okay h (topR d.certs).toNat ⟨c0, []⟩ (start_okay c0_may) (by decide) (by decide)).1.outs' h.well
/-- what a step hands back, as data -/
def Wk.out (w : Wk) : AV := .tup [.agg [.d (.int .i64 w.c.round), .d (.sl 1 (nums w.c.done)), .d (.int .i64 w.c.count)], .d (.sl 1 (nums w.outs)), .d (.int .i64 0)]
/-- the first certificates -/
def pt (d : Dag) (n : Nat) : Dag := ⟨d.nodes, 0, d.certs.take n⟩
end Go.Proofs.YtoeppembokpjkaaGreat
