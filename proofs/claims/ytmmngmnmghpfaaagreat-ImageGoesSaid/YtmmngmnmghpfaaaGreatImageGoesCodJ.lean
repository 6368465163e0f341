/- ImageGoes: for every Go the law returns true, and its argument reads behind the call as it read before. No condition of ours. -/
import Derived.Test.YtmmngmnmghpfaaaGreatImageGoesCodI
import Derived.Test.YtmmngmnmghpfaaaGreatRows
set_option linter.unusedVariables false
set_option linter.unusedSimpArgs false
namespace Go.Proofs.YtmmngmnmghpfaaaGreat
open Go.Ab Go.RowKit Go.MapKept
attribute [local irreducible] ACalls AW ADraw Into fltB fnear
set_option maxRecDepth 100000
theorem goes_zero (d : Dag) (hv : Valid d) (h0 : d.low = 0) (l : List HeldS) (hl : few l) (hm : heldMay l) : ACalls Tryz.prog 10 [d.av, .d (.sl 4 (heldD l)), zPt] [] (fun av L => av = .tup [(endP d l).av, .d (.bool true)] ∧ L = []) :=
  acalls_nw (goes_ok d hv h0 c0 c0_may e0 e0_fine l hl hm (fin_outs c0) (fin_len hv)) (.cons (.refl _) (.cons (.refl _) (.cons (.agg (.cons (.refl _) (.cons (.nils 1 (by decide)) (.cons (.refl _) (.cons (.nils 2 (by decide)) (.cons (.nils 2 (by decide)) (.cons (.nils 1 (by decide)) (.cons (.refl _) .nil)))))))) .nil)))
theorem goes_part {A d : Dag} (h : Sub A d) (l : List HeldS) (hl : few l) (hm : heldMay l) : ACalls Tryz.prog 10 [d.av, .d (.sl 4 (heldD l)), (endP A l).av] [] (fun av L => av = .tup [(endP d l).av, .d (.bool true)] ∧ L = []) := by
  have h1 := goes_ok d h.vd h.ld (finW A c0).c (fin_may h.va h.la) (endE A l) (endE_fine h.va l) l hl hm (fin_outs _) (by
    have h2 := (part_on h).2.1
    have h3 := fin_len h.vd
    rw [h2, List.length_append] at h3
    omega)
  rw [on_eq h] at h1
  exact h1
theorem endP_fit {d : Dag} (h : Valid d) (h0 : d.low = 0) (hc : d.certs.length ≤ 80) (l : List HeldS) : (endP d l).fit := by
  have h1 := endP_small h h0 hc l
  have h2 := (endE_fine h l).tab
  have h3 := h1.done
  have h4 := h1.seen
  have h5 : (endP d l).prs.length ≤ 4096 := h2.pl
  have h6 : (endP d l).accs.length ≤ 4096 := h2.al
  exact ⟨by omega, by omega, by omega, by omega⟩
theorem bytes_end {d : Dag} (h : Valid d) (h0 : d.low = 0) (hc : d.certs.length ≤ 80) (l : List HeldS) : ∃ b, b.length ≤ 400000 ∧ Dec b (endP d l) ∧ putO (endP d l).texts = some b ∧ ACalls Tryz.prog 11 [(endP d l).av] [] (fun av L => av = .tup [.d (.sl 1 (u8s b)), .d (.int .i64 0)] ∧ L = []) := by
  have hm := endP_may h h0 l
  obtain ⟨b, h1, h2, h3⟩ := point_back (endP d l) hm (endP_small h h0 hc l)
  refine ⟨b, h2, h3, h1, ?_⟩
  have h4 := bytes_ok (endP d l) (endP_fit h h0 hc l)
  rw [show bytesR (endP d l) = .tup [.d (.sl 1 (u8s b)), .d (.int .i64 0)] from (if_pos hm).trans (putR_some h1)] at h4
  exact h4
theorem parse_end {d : Dag} (h : Valid d) (h0 : d.low = 0) (l : List HeldS) {b : List UInt8} (h1 : b.length ≤ 400000) (h2 : Dec b (endP d l)) (h3 : putO (endP d l).texts = some b) : ACalls Tryz.prog 12 [.d (.sl 1 (u8s b))] [] (fun av L => av = .tup [(endP d l).av, .d (.int .i64 0)] ∧ L = []) := by
  refine (parse_raw b h1).mono ?_
  rintro _ _ ⟨⟨p, -, -, -, h7, rfl⟩ | ⟨hn, rfl⟩, rfl⟩
  · obtain rfl := dec_one h7 h2
    exact ⟨rfl, rfl⟩
  · exact (hn _ h2 (endP_may h h0 l) h3).elim
structure GoG where
  d : Dag
  cut : Int
  held : List HeldS
def GoG.cells (g : GoG) : List AV := [.d (.int .i64 g.d.nodes), .d (.int .i64 g.d.low), .d (.sl 6 (certsD g.d.certs)), .d (.int .i64 g.cut), .d (.sl 4 (heldD g.held))]
def GoG.av (g : GoG) : AV := .agg g.cells
structure GoG.ok (g : GoG) : Prop where
  d : g.d.ok
  cut : i64 g.cut
  held : g.held.length ≤ 3000000000000
  txs : ∀ h ∈ g.held, few h.bat.txs ∧ ∀ t ∈ h.bat.txs, t.ok
theorem imageGoes_walk (g : GoG) (hg : g.ok) : ACalls Tryz.prog 3 [g.av] [] (fun av L => av = .d (.bool true) ∧ L = []) := by
  have hcl := certsD_length g.d.certs
  have hfh : few g.held := by have := hg.held; unfold few; omega
  (refine acalls_go ttOk zOk foOk Tryz.func3 rfl Tryz.ntmps3 rfl false rfl ?_); (conv => whnf)
  refine (heavyD3_ok g.d hg.d).mono ?_
  rintro _ _ ⟨⟨b, rfl, hb⟩, rfl⟩
  cases b with
  | true =>
    conv => whnf
    exact ⟨rfl, rfl⟩
  | false =>
    obtain ⟨hl80, -⟩ := hb rfl
    conv => whnf
    refine (rMayDag_ok g.d hg.d).mono ?_
    rintro _ _ ⟨⟨b, rfl, hv⟩, rfl⟩
    cases b with
    | false =>
      conv => whnf
      exact ⟨rfl, rfl⟩
    | true =>
      replace hv := hv rfl
      conv => whnf
      refine rdw ?_; repeat' ((with_reducible apply tw) <;> intro _)
      · exact ⟨rfl, rfl⟩
      · rename_i h0
        replace h0 : g.d.low = 0 := by omega
        refine (heldW_ok g.held hg.held hg.txs).mono ?_
        rintro _ _ ⟨⟨n, rfl⟩, rfl⟩
        conv => whnf
        refine rdw ?_; repeat' ((with_reducible apply tw) <;> intro _)
        · exact ⟨rfl, rfl⟩
        · refine (rHeld22_ok g.held hfh fun h hh => (hg.txs h hh).1).mono ?_
          rintro _ _ ⟨⟨b, rfl, hm⟩, rfl⟩
          cases b with
          | false =>
            conv => whnf
            exact ⟨rfl, rfl⟩
          | true =>
            replace hm := hm rfl
            conv => whnf
            refine rdw ?_; repeat' ((with_reducible apply tw) <;> intro _)
            rw [hcl]
            refine (within_ok g.cut ((g.d.certs.length : Int) + 1) (by omega) (by omega) hg.cut).mono ?_
            rintro _ _ ⟨rfl, rfl⟩
            have hw1 := Int.emod_nonneg (g.cut % 18446744073709551616) (show (g.d.certs.length : Int) + 1 ≠ 0 by omega)
            have hw2 := Int.emod_lt_of_pos (g.cut % 18446744073709551616) (show (0 : Int) < (g.d.certs.length : Int) + 1 by omega)
            obtain ⟨u, hu⟩ : ∃ u : Nat, (g.cut % 18446744073709551616) % ((g.d.certs.length : Int) + 1) = u := ⟨((g.cut % 18446744073709551616) % ((g.d.certs.length : Int) + 1)).toNat, (Int.toNat_of_nonneg hw1).symm⟩
            rw [hu] at hw2 ⊢
            have hu2 : u ≤ g.d.certs.length := by omega
            conv => whnf
            refine rdw ?_; repeat' ((with_reducible apply tw) <;> intro _)
            have hcop := copyCerts_ok (g.d.certs.take u) (Nat.le_trans (List.length_take_le' ..) hv.tiny.1) fun c hc => hv.tiny.2 c (List.mem_of_mem_take hc)
            ((with_reducible refine draw_pl ttOk zOk foOk mixedOk pl3x4 ?_ ?_); (focus kernel_rfl); (conv => whnf))
            refine rdw ?_; repeat' ((with_reducible apply tw) <;> intro _)
            ((with_reducible apply rd_intro); (focus (intro K hK; (conv => whnf); refine ⟨by omega, by omega, by omega, ?_⟩; rw [show ((0 : Int)).toNat = 0 from rfl, List.drop_zero, show ((u : Int)).toNat = u from rfl, certsD_take]; exact hK)); (conv => whnf))
            refine rdw ?_; repeat' ((with_reducible apply tw) <;> intro _)
            ((with_reducible apply rd_intro); (focus (intro K hK; (conv => whnf); refine (hcop).mono ?_; rintro _ _ ⟨rfl, rfl⟩; (conv => whnf); exact hK)); (conv => whnf))
            repeat' (first | (first | ((with_reducible first | apply rd_intro | apply gd_and); (focus ((conv => whnf) <;> first | rfl | (intro K hK; (conv => whnf); first | exact hK | exact z_wrap (by omega) hK))); conv => whnf) | ((with_reducible apply z_wrap); (focus omega); conv => whnf) | ((with_reducible first | apply mt_dec | apply mt_eq | apply mt_ne | apply mt_not | apply mt_any) <;> (intro _; conv => whnf))) | ((with_reducible apply gd_and); (focus ((conv => whnf); intro K hK; (conv => whnf); refine ⟨by omega, by omega, by omega, ?_⟩; rw [show ((0 : Int)).toNat = 0 from rfl, List.drop_zero, show ((u : Int)).toNat = u from rfl, certsD_take]; exact hK)); (conv => whnf)) | ((with_reducible apply gd_and); (focus ((conv => whnf); intro K hK; (conv => whnf); refine (hcop).mono ?_; rintro _ _ ⟨rfl, rfl⟩; (conv => whnf); exact hK)); (conv => whnf)) | fail)
            have hA : Valid (pt g.d u) := pt_valid hv h0 u
            have hsb := pt_sub hv h0 hu2
            rw [pt_all h0 (Nat.le_refl _)] at hsb
            have hAl : (pt g.d u).certs.length ≤ 80 := Nat.le_trans (List.length_take_le' ..) hl80
            obtain ⟨by1, hb1, hb2, hb3, hb4⟩ := bytes_end hA rfl hAl g.held
            have hz := num24_ok 0
            have g1 := goes_zero (pt g.d u) hA rfl g.held hfh hm
            have g2 := parse_end hA rfl g.held hb1 hb2 hb3
            have g3 := goes_part hsb g.held hfh hm
            have g4 := goes_zero g.d hv h0 g.held hfh hm
            have hdl := rise_len2 (fin_may hv h0).done
            have hef := endE_fine hv g.held
            have hep := hef.tab.pl
            have hea := hef.tab.al
            have hes := hef.len
            have q1 := eqPoint_ok (finW g.d c0).c (endE g.d g.held) (by unfold few; omega) (by omega) (by omega) (by unfold few; omega)
            have q2 := eqExec_ok (endE g.d g.held) (by omega) (by omega) (by unfold few; omega)
            have q3 := wakes24
            (refine (g1).mono ?_; rintro _ _ ⟨rfl, rfl⟩; (conv => whnf))
            refine rdw ?_; repeat' ((with_reducible apply tw) <;> intro _)
            (refine (hb4).mono ?_; rintro _ _ ⟨rfl, rfl⟩; (conv => whnf))
            refine rdw ?_; repeat' ((with_reducible apply tw) <;> intro _)
            (refine (g2).mono ?_; rintro _ _ ⟨rfl, rfl⟩; (conv => whnf))
            refine rdw ?_; repeat' ((with_reducible apply tw) <;> intro _)
            (refine (hz).mono ?_; rintro _ _ ⟨rfl, rfl⟩; (conv => whnf))
            refine rdw ?_; repeat' ((with_reducible apply tw) <;> intro _)
            (refine (hz).mono ?_; rintro _ _ ⟨rfl, rfl⟩; (conv => whnf))
            refine rdw ?_; repeat' ((with_reducible apply tw) <;> intro _)
            (refine (g3).mono ?_; rintro _ _ ⟨rfl, rfl⟩; (conv => whnf))
            refine rdw ?_; repeat' ((with_reducible apply tw) <;> intro _)
            (refine (g3).mono ?_; rintro _ _ ⟨rfl, rfl⟩; (conv => whnf))
            refine rdw ?_; repeat' ((with_reducible apply tw) <;> intro _)
            (refine (g4).mono ?_; rintro _ _ ⟨rfl, rfl⟩; (conv => whnf))
            refine rdw ?_; repeat' ((with_reducible apply tw) <;> intro _)
            (refine (q1).mono ?_; rintro _ _ ⟨rfl, rfl⟩; (conv => whnf))
            refine rdw ?_; repeat' ((with_reducible apply tw) <;> intro _)
            (refine (q2).mono ?_; rintro _ _ ⟨rfl, rfl⟩; (conv => whnf))
            refine rdw ?_; repeat' ((with_reducible apply tw) <;> intro _)
            · (refine (q3).mono ?_; rintro _ _ ⟨rfl, rfl⟩; (conv => whnf))
              refine rdw ?_; repeat' ((with_reducible apply tw) <;> intro _)
              exact ⟨rfl, rfl⟩
            all_goals (rename_i hx; exact absurd rfl hx)
end Go.Proofs.YtmmngmnmghpfaaaGreat
namespace Go.Proofs.YtmmngmnmghpfaaaGreat
open Go.Ab Go.RowKit
theorem tx_of {ds : List DV} (h : DTy tt 2 106 ds) : ∃ t : Tx, ds = t.cs ∧ t.ok := by
  replace h : DTyF (DTy tt 1) [3, 3, 9, 9] ds := h
  obtain ⟨a1, b1, rfl, h1, a2, b2, rfl, h2, a3, b3, rfl, h3, a4, b4, rfl, h4, rfl⟩ := h
  replace h1 : ∃ x, a1 = [.int .i64 x] ∧ (Lit.int .i64 x).wf = true := h1
  replace h2 : ∃ x, a2 = [.int .i64 x] ∧ (Lit.int .i64 x).wf = true := h2
  replace h3 : ∃ s, a3 = [.str s] ∧ s.size ≤ 140737488355328 := h3
  replace h4 : ∃ s, a4 = [.str s] ∧ s.size ≤ 140737488355328 := h4
  obtain ⟨x1, rfl, w1⟩ := h1
  obtain ⟨x2, rfl, w2⟩ := h2
  obtain ⟨x3, rfl, w3⟩ := h3
  obtain ⟨x4, rfl, w4⟩ := h4
  exact ⟨⟨x1, x2, x3, x4⟩, rfl, w3, w4⟩
theorem held_of {ds : List DV} (h : DTy tt 5 71 ds) : ∃ t : HeldS, ds = t.cs ∧ few t.bat.txs ∧ ∀ x ∈ t.bat.txs, x.ok := by
  replace h : DTyF (DTy tt 4) [3, 69] ds := h
  obtain ⟨a1, b1, rfl, h1, a2, b2, rfl, h2, rfl⟩ := h
  replace h2 : DTyF (DTy tt 3) [3, 3, 67] a2 := h2
  obtain ⟨a3, b3, rfl, h3, a4, b4, rfl, h4, a5, b5, rfl, h5, rfl⟩ := h2
  replace h1 : ∃ x, a1 = [.int .i64 x] ∧ (Lit.int .i64 x).wf = true := h1
  replace h3 : ∃ x, a3 = [.int .i64 x] ∧ (Lit.int .i64 x).wf = true := h3
  replace h4 : ∃ x, a4 = [.int .i64 x] ∧ (Lit.int .i64 x).wf = true := h4
  replace h5 : ∃ xs, a5 = [.sl 4 xs] ∧ xs.length * 48 ≤ 140737488355328 ∧ ∀ x ∈ xs, DTy tt 2 106 x := h5
  obtain ⟨x1, rfl, w1⟩ := h1
  obtain ⟨x3, rfl, w3⟩ := h3
  obtain ⟨x4, rfl, w4⟩ := h4
  obtain ⟨x5, rfl, w5, e5⟩ := h5
  obtain ⟨l, rfl, hl⟩ := map_of (f := Tx.cs) fun x hx => tx_of (e5 x hx)
  simp only [List.length_map] at w5
  exact ⟨⟨x1, ⟨x3, x4, l⟩⟩, rfl, by show l.length ≤ _; omega, hl⟩
theorem go_of {ds : List DV} (h : DTy tt 7 27 ds) : ∃ g : GoG, argS ds = g.av ∧ g.ok := by
  replace h : DTyF (DTy tt 6) [24, 3, 25] ds := h
  obtain ⟨a1, b1, rfl, h1, a2, b2, rfl, h2, a3, b3, rfl, h3, rfl⟩ := h
  replace h2 : ∃ x, a2 = [.int .i64 x] ∧ (Lit.int .i64 x).wf = true := h2
  replace h3 : ∃ xs, a3 = [.sl 4 xs] ∧ xs.length * 48 ≤ 140737488355328 ∧ ∀ x ∈ xs, DTy tt 5 71 x := h3
  obtain ⟨d, rfl, hd⟩ := dag_of h1
  obtain ⟨x2, rfl, w2⟩ := h2
  obtain ⟨x3, rfl, w3, e3⟩ := h3
  obtain ⟨l, rfl, hl⟩ := map_of (f := HeldS.cs) fun x hx => held_of (e3 x hx)
  simp only [List.length_map] at w3
  exact ⟨⟨d, x2, l⟩, rfl, hd, i64_of w2, by show l.length ≤ _; omega, hl⟩
end Go.Proofs.YtmmngmnmghpfaaaGreat
/- ImageGoes: for every Go the law returns true, and its argument reads behind the call as it read before. No condition of ours. -/
namespace Go.Proofs.YtmmngmnmghpfaaaGreat
open Go.Ab Go.RowKit Go.ChangeShapes Go.WideShapes Go.ChangeAt
theorem own : ownKnob Tryz.prog.godebug = none := by kernel_rfl
theorem laidOut : laidOutB Tryz.prog = true := by kernel_rfl
set_option maxRecDepth 100000 in
theorem imageGoes_lifted (os : Os) (started : os.Started) (H : Type) (enc : TypeId × Value → H) :
    ReturnsInHanded {} Tryz.checked os 3 .any (Rows.imageGoesSpec.pre6 enc Tryz.prog Tryz.f3 Rows.imageGoesRow.domain false) (Rows.imageGoesSpec.post enc Tryz.prog Tryz.f3 false true false false) := by
  refine returnsInHanded_of_change_sized (C := Tryz.checked) own started (by kernel_rfl) Tryz.func3
    (ChangeSpec.witness6 (enc := enc) (C := Tryz.checked) false ⟨#[], #[.agg #[.int .i64 0, .int .i64 0, .slice none 0 0, .int .i64 0, .slice none 0 0]], []⟩ 8 (by kernel_rfl) (by kernel_rfl) (by kernel_rfl) (by kernel_rfl)) ?_
  intro W base args ds gs before hval hW _ hsz _
  exact law_contract ttOk (f := Tryz.f3) (tb := 4) (t := 27) rfl rfl Tryz.underlying4 rfl (fun _ _ => rfl) laidOut (by kernel_rfl) (of_decide_eq_true (by kernel_rfl)) 7 (by kernel_rfl) argS
    (fun W base v ds h1 h2 => argS_ok Tryz.underlying27 h1 h2)
    (fun ds hd => by
      obtain ⟨p, hp, hok⟩ := go_of hd
      rw [hp]
      exact imageGoes_walk p hok) hval hW hsz
theorem imageGoes_holds : Rows.ImageGoesSaid :=
  OpenClaim.holds_of_wide 3 Tryz.f3 rfl rfl rfl rfl rfl rfl rfl ⟨rfl, rfl, rfl, rfl, rfl⟩ rfl rfl rfl rfl rfl (by kernel_rfl) Tryz.func3 (by kernel_rfl)
    (of_decide_eq_true (by kernel_rfl)) (by unfold Func.isWrapper; first | (rw [if_pos (by decide +kernel)]; kernel_rfl) | (rw [if_neg (by decide +kernel)]; exact ⟨rfl, rfl⟩))
    (fun os started H enc _ => imageGoes_lifted os started H enc)
#print axioms imageGoes_holds
end Go.Proofs.YtmmngmnmghpfaaaGreat
