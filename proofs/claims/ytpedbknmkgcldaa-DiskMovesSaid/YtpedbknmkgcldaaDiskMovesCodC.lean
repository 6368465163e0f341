/- DiskMoves: for every script the law returns true, and its argument reads behind the call as it read before. No condition of ours. -/
import Derived.Test.YtpedbknmkgcldaaDiskMovesCodB
import Derived.Test.YtpedbknmkgcldaaRows

set_option linter.unusedVariables false
set_option linter.unusedSimpArgs false
namespace Go.Proofs.Ytpedbknmkgcldaa
open Go.Ab Go.RowKit Go.MapKept
attribute [local irreducible] ACalls AW ADraw Into
set_option maxRecDepth 100000
theorem sumTo_mono {α : Type} (f : α → Nat) (l : List α) {k m : Nat} (h : k ≤ m) : sumTo f l k ≤ sumTo f l m := by
  obtain ⟨j, rfl⟩ := Nat.exists_eq_add_of_le h
  unfold sumTo
  rw [List.take_add, List.map_append, List.sum_append]
  omega
theorem act_light {p : ScriptS} (h : p.heavy = false) {k : Nat} (hk : k < 40) {a : ActS} (ha : p.acts[k]? = some a) : a.bytes.length ≤ 10000 ∧ a.picks.length ≤ 10000 := by
  unfold ScriptS.heavy at h
  simp only [Bool.or_eq_false_iff, decide_eq_false_iff_not] at h
  have h1 : sumTo (fun x => x.bytes.length + x.picks.length) p.acts (k + 1) = sumTo (fun x => x.bytes.length + x.picks.length) p.acts k + (a.bytes.length + a.picks.length) := by
    have hlt := (List.getElem?_eq_some_iff.1 ha).1
    rw [sumTo_succ _ _ hlt, (List.getElem?_eq_some_iff.1 ha).2]
  have h2 : sumTo (fun x => x.bytes.length + x.picks.length) p.acts (k + 1) ≤ sumTo (fun x => x.bytes.length + x.picks.length) p.acts 40 := sumTo_mono _ _ (by omega)
  omega
def nA : ByteArray := ⟨#[97]⟩
def nB : ByteArray := ⟨#[98]⟩
def old : List UInt8 := [111, 108, 100]
theorem mv1 (b : List UInt8) : (DD.mk 0 false 0 [⟨nA, b, b⟩, ⟨nB, old, old⟩]).rename nA nB = (0, ⟨1, false, 0, [⟨nB, b, b⟩]⟩) := rfl
theorem mv2 (b : List UInt8) : (DD.mk 1 false 0 [⟨nB, b, b⟩]).rename nA nB = (3, ⟨2, false, 0, [⟨nB, b, b⟩]⟩) := rfl
theorem mv3 (b : List UInt8) : (DD.mk 2 false 0 [⟨nB, b, b⟩]).rename nB nB = (0, ⟨3, false, 0, [⟨nB, b, b⟩]⟩) := rfl
theorem mv4 (b : List UInt8) : (DD.mk 3 false 0 [⟨nB, b, b⟩]).remove nA = (3, ⟨4, false, 0, [⟨nB, b, b⟩]⟩) := rfl
theorem mv5 (b : List UInt8) : (DD.mk 4 false 0 [⟨nB, b, b⟩]).remove nB = (0, ⟨5, false, 0, []⟩) := rfl
theorem mv6 : (DD.mk 5 false 0 []).read nB = ([], 3) := rfl
theorem mvmay (b : List UInt8) (h : b.length ≤ 10000) : mayNew [⟨nA, b⟩, ⟨nB, old⟩] = true := by
  have h1 : goodS nA = true := by rfl
  have h2 : goodS nB = true := by rfl
  have h3 : lessS nA nB = true := by (unfold lessS; rw [ByteArray.toList_eq, ByteArray.toList_eq]; rfl)
  have h4 : b.length ≤ 1048576 := by omega
  simp [mayNew, mayAt, List.range_succ, prevLess, h1, h2, h3, h4, old]
theorem fine0 (b : List UInt8) (h : b.length ≤ 10000) (n : Int) (f : List FD) (hf : f = [⟨nA, b, b⟩, ⟨nB, old, old⟩] ∨ f = [⟨nB, b, b⟩] ∨ f = []) : (DD.mk n false 0 f).fine := by
  have h1 : goodS nA = true := by rfl
  have h2 : goodS nB = true := by rfl
  have h3 : nA ≠ nB := by decide
  rcases hf with rfl | rfl | rfl
  · exact ⟨⟨by simp [old]; omega⟩, by simp [h3], by simp [h1, h2], by simp⟩
  · exact ⟨⟨by simp; omega⟩, by simp, by simp [h2], by simp⟩
  · exact ⟨⟨by simp⟩, by simp, by simp, by simp⟩
set_option maxHeartbeats 4000000 in
theorem diskMoves_ok (p : ScriptS) (hp : p.ok) : ACalls Try.prog 5 [p.av] [] (fun av L => av = .d (.bool true) ∧ L = []) := by
  refine acalls_go ttOk zOk foOk Try.func5 rfl Try.ntmps5 rfl false rfl ?_
  conv => whnf
  refine (heavy_ok p hp).mono ?_
  rintro _ _ ⟨rfl, rfl⟩
  generalize hhv : p.heavy = hv
  conv => whnf
  ((with_reducible refine mt_any (fun _ => ?_) (fun _ => ?_)) <;> (conv => whnf))
  · exact ⟨rfl, rfl⟩
  · rename_i hhv2
    subst hhv2
    refine loop_out ttOk zOk foOk (σ := Nat) (τ := Unit) (fun k => ([(1, .ptr 0 0), (3, .d (.int .i64 k))], [.cells p.cells])) (fun k => k ≤ 10) (fun k => 10 - k) [1, 3]
      0 (fun _ => ([], [])) (fun _ => True) [] ?_ ?_ ?_
    · conv => whnf
      exact ⟨0, rfl, rfl, by omega⟩
    · rintro _ _
      conv => whnf
      refine wakes9_ok.mono ?_
      rintro _ _ ⟨rfl, rfl⟩
      conv => whnf
      exact ⟨rfl, rfl⟩
    · rintro k hk
      conv => whnf
      ((with_reducible refine mt_dec (fun _ => ?_) (fun _ => ?_)) <;> (conv => whnf))
      · rename_i h
        simp only [List.length_map] at h
        ((with_reducible refine mt_dec (fun _ => ?_) (fun _ => ?_)) <;> (conv => whnf))
        · obtain ⟨a, ha⟩ : ∃ a, p.acts[k]? = some a := ⟨_, List.getElem?_eq_getElem (by omega)⟩
          obtain ⟨hbl, hpl⟩ := act_light hhv (by omega) ha
          have hpk := (hp.a a (List.mem_of_getElem? ha)).pick
          ((with_reducible refine ix_map ha ?_ ?_); (focus (first | rfl | omega)); (conv => whnf))
          ((with_reducible refine (copyBytes_ok a.bytes (by omega)).mono ?_); rintro _ _ ⟨rfl, rfl⟩; (conv => whnf))
          repeat' (first | ((with_reducible apply rd_intro); (focus (intro K hK; (conv => whnf); first | exact hK | (intro z hz; rw [wrapI (by omega)] at hz; subst hz; exact hK))); (conv => whnf)) | ((with_reducible apply gd_and); (focus ((conv => whnf); first | rfl | (intro K hK; (conv => whnf); first | exact hK | (intro z hz; rw [wrapI (by omega)] at hz; subst hz; exact hK)))); (conv => whnf)) | ((with_reducible apply z_wrap); (focus omega); (conv => whnf)) | ((with_reducible refine mt_dec (fun _ => ?_) (fun _ => ?_)) <;> (conv => whnf)) | ((with_reducible refine mt_eq (fun _ => ?_) (fun _ => ?_)) <;> (conv => whnf)) | ((with_reducible refine mt_ne (fun _ => ?_) (fun _ => ?_)) <;> (conv => whnf)) | ((with_reducible refine mt_not (fun _ => ?_) (fun _ => ?_)) <;> (conv => whnf)) | ((with_reducible refine mt_any (fun _ => ?_) (fun _ => ?_)) <;> (conv => whnf)))
          refine ⟨by simp, ?_⟩
          conv => whnf
          repeat' (first | ((with_reducible apply rd_intro); (focus (intro K hK; (conv => whnf); first | exact hK | (intro z hz; rw [wrapI (by omega)] at hz; subst hz; exact hK))); (conv => whnf)) | ((with_reducible apply gd_and); (focus ((conv => whnf); first | rfl | (intro K hK; (conv => whnf); first | exact hK | (intro z hz; rw [wrapI (by omega)] at hz; subst hz; exact hK)))); (conv => whnf)) | ((with_reducible apply z_wrap); (focus omega); (conv => whnf)) | ((with_reducible refine mt_dec (fun _ => ?_) (fun _ => ?_)) <;> (conv => whnf)) | ((with_reducible refine mt_eq (fun _ => ?_) (fun _ => ?_)) <;> (conv => whnf)) | ((with_reducible refine mt_ne (fun _ => ?_) (fun _ => ?_)) <;> (conv => whnf)) | ((with_reducible refine mt_not (fun _ => ?_) (fun _ => ?_)) <;> (conv => whnf)) | ((with_reducible refine mt_any (fun _ => ?_) (fun _ => ?_)) <;> (conv => whnf)))
          (refine Or.inl ?_; (conv => whnf))
          refine (new_ok [⟨nA, a.bytes⟩, ⟨nB, old⟩] (by intro f hf; simp at hf; rcases hf with rfl | rfl <;> simp [old]; omega) (by simp)).mono ?_
          rintro _ _ ⟨hn1, _⟩
          obtain ⟨rfl, fs, rfl, hfs⟩ := hn1 (mvmay a.bytes hbl)
          clear hn1
          have hd0 : (Dk.mk 0 false 0 fs).dat = ⟨0, false, 0, [⟨nA, a.bytes, a.bytes⟩, ⟨nB, old, old⟩]⟩ := by
            unfold newFl at hfs
            have := congrArg (List.map fun x : ByteArray × List UInt8 × List UInt8 => FD.mk x.1 x.2.1 x.2.2) hfs
            simp only [List.map_map] at this
            exact congrArg (DD.mk 0 false 0) this
          conv => whnf
          ((with_reducible refine (num9_ok 0).mono ?_); rintro _ _ ⟨rfl, rfl⟩; (conv => whnf))
          repeat' (first | ((with_reducible apply rd_intro); (focus (intro K hK; (conv => whnf); first | exact hK | (intro z hz; rw [wrapI (by omega)] at hz; subst hz; exact hK))); (conv => whnf)) | ((with_reducible apply gd_and); (focus ((conv => whnf); first | rfl | (intro K hK; (conv => whnf); first | exact hK | (intro z hz; rw [wrapI (by omega)] at hz; subst hz; exact hK)))); (conv => whnf)) | ((with_reducible apply z_wrap); (focus omega); (conv => whnf)) | ((with_reducible refine mt_dec (fun _ => ?_) (fun _ => ?_)) <;> (conv => whnf)) | ((with_reducible refine mt_eq (fun _ => ?_) (fun _ => ?_)) <;> (conv => whnf)) | ((with_reducible refine mt_ne (fun _ => ?_) (fun _ => ?_)) <;> (conv => whnf)) | ((with_reducible refine mt_not (fun _ => ?_) (fun _ => ?_)) <;> (conv => whnf)) | ((with_reducible refine mt_any (fun _ => ?_) (fun _ => ?_)) <;> (conv => whnf)))
          refine (rename_ok (Dk.mk 0 false 0 fs) nA nB).mono ?_
          rw [hd0, mv1]
          rintro _ _ ⟨d1, rfl, rfl, hd1⟩
          conv => whnf
          ((with_reducible refine (num9_ok 0).mono ?_); rintro _ _ ⟨rfl, rfl⟩; (conv => whnf))
          repeat' (first | ((with_reducible apply rd_intro); (focus (intro K hK; (conv => whnf); first | exact hK | (intro z hz; rw [wrapI (by omega)] at hz; subst hz; exact hK))); (conv => whnf)) | ((with_reducible apply gd_and); (focus ((conv => whnf); first | rfl | (intro K hK; (conv => whnf); first | exact hK | (intro z hz; rw [wrapI (by omega)] at hz; subst hz; exact hK)))); (conv => whnf)) | ((with_reducible apply z_wrap); (focus omega); (conv => whnf)) | ((with_reducible refine mt_dec (fun _ => ?_) (fun _ => ?_)) <;> (conv => whnf)) | ((with_reducible refine mt_eq (fun _ => ?_) (fun _ => ?_)) <;> (conv => whnf)) | ((with_reducible refine mt_ne (fun _ => ?_) (fun _ => ?_)) <;> (conv => whnf)) | ((with_reducible refine mt_not (fun _ => ?_) (fun _ => ?_)) <;> (conv => whnf)) | ((with_reducible refine mt_any (fun _ => ?_) (fun _ => ?_)) <;> (conv => whnf)))
          refine (crash_same d1 (by rw [hd1]; exact fine0 a.bytes hbl 1 _ (.inr (.inl rfl))) a.picks hpk (by omega) (by rw [hd1]; simp)).mono ?_
          rw [hd1]
          rintro _ _ ⟨ss, hss, _, rfl, rfl⟩
          obtain rfl : ss = [nB] := List.perm_singleton.1 hss
          rw [show (crashAt (pickFs [nB] (DD.mk 1 false 0 [⟨nB, a.bytes, a.bytes⟩]).fs) a.picks [nB].length).1 = [⟨nB, a.bytes⟩] by rw [show pickFs [nB] (DD.mk 1 false 0 [⟨nB, a.bytes, a.bytes⟩]).fs = [⟨nB, a.bytes, a.bytes⟩] by rfl]; simp [crashAt, stepC]]
          conv => whnf
          repeat' (first | ((with_reducible apply rd_intro); (focus (intro K hK; (conv => whnf); first | exact hK | (intro z hz; rw [wrapI (by omega)] at hz; subst hz; exact hK))); (conv => whnf)) | ((with_reducible apply gd_and); (focus ((conv => whnf); first | rfl | (intro K hK; (conv => whnf); first | exact hK | (intro z hz; rw [wrapI (by omega)] at hz; subst hz; exact hK)))); (conv => whnf)) | ((with_reducible apply z_wrap); (focus omega); (conv => whnf)) | ((with_reducible refine mt_dec (fun _ => ?_) (fun _ => ?_)) <;> (conv => whnf)) | ((with_reducible refine mt_eq (fun _ => ?_) (fun _ => ?_)) <;> (conv => whnf)) | ((with_reducible refine mt_ne (fun _ => ?_) (fun _ => ?_)) <;> (conv => whnf)) | ((with_reducible refine mt_not (fun _ => ?_) (fun _ => ?_)) <;> (conv => whnf)) | ((with_reducible refine mt_any (fun _ => ?_) (fun _ => ?_)) <;> (conv => whnf)))
          (refine Or.inl ?_; (conv => whnf))

          refine (eqFiles_ok [⟨nB, a.bytes⟩] [⟨nB, a.bytes⟩] (by simp) (by simp; omega)).mono ?_
          rintro _ _ ⟨t, ht, rfl, rfl⟩
          obtain rfl : t = true := ht.2 rfl
          conv => whnf
          repeat' (first | ((with_reducible apply rd_intro); (focus (intro K hK; (conv => whnf); first | exact hK | (intro z hz; rw [wrapI (by omega)] at hz; subst hz; exact hK))); (conv => whnf)) | ((with_reducible apply gd_and); (focus ((conv => whnf); first | rfl | (intro K hK; (conv => whnf); first | exact hK | (intro z hz; rw [wrapI (by omega)] at hz; subst hz; exact hK)))); (conv => whnf)) | ((with_reducible apply z_wrap); (focus omega); (conv => whnf)) | ((with_reducible refine mt_dec (fun _ => ?_) (fun _ => ?_)) <;> (conv => whnf)) | ((with_reducible refine mt_eq (fun _ => ?_) (fun _ => ?_)) <;> (conv => whnf)) | ((with_reducible refine mt_ne (fun _ => ?_) (fun _ => ?_)) <;> (conv => whnf)) | ((with_reducible refine mt_not (fun _ => ?_) (fun _ => ?_)) <;> (conv => whnf)) | ((with_reducible refine mt_any (fun _ => ?_) (fun _ => ?_)) <;> (conv => whnf)))
          refine (rename_ok d1 nA nB).mono ?_
          rw [hd1, mv2]
          rintro _ _ ⟨d2, rfl, rfl, hd2⟩
          conv => whnf
          ((with_reducible refine (num9_ok 3).mono ?_); rintro _ _ ⟨rfl, rfl⟩; (conv => whnf))
          repeat' (first | ((with_reducible apply rd_intro); (focus (intro K hK; (conv => whnf); first | exact hK | (intro z hz; rw [wrapI (by omega)] at hz; subst hz; exact hK))); (conv => whnf)) | ((with_reducible apply gd_and); (focus ((conv => whnf); first | rfl | (intro K hK; (conv => whnf); first | exact hK | (intro z hz; rw [wrapI (by omega)] at hz; subst hz; exact hK)))); (conv => whnf)) | ((with_reducible apply z_wrap); (focus omega); (conv => whnf)) | ((with_reducible refine mt_dec (fun _ => ?_) (fun _ => ?_)) <;> (conv => whnf)) | ((with_reducible refine mt_eq (fun _ => ?_) (fun _ => ?_)) <;> (conv => whnf)) | ((with_reducible refine mt_ne (fun _ => ?_) (fun _ => ?_)) <;> (conv => whnf)) | ((with_reducible refine mt_not (fun _ => ?_) (fun _ => ?_)) <;> (conv => whnf)) | ((with_reducible refine mt_any (fun _ => ?_) (fun _ => ?_)) <;> (conv => whnf)))
          refine (rename_ok d2 nB nB).mono ?_
          rw [hd2, mv3]
          rintro _ _ ⟨d3, rfl, rfl, hd3⟩
          conv => whnf
          ((with_reducible refine (num9_ok 0).mono ?_); rintro _ _ ⟨rfl, rfl⟩; (conv => whnf))
          repeat' (first | ((with_reducible apply rd_intro); (focus (intro K hK; (conv => whnf); first | exact hK | (intro z hz; rw [wrapI (by omega)] at hz; subst hz; exact hK))); (conv => whnf)) | ((with_reducible apply gd_and); (focus ((conv => whnf); first | rfl | (intro K hK; (conv => whnf); first | exact hK | (intro z hz; rw [wrapI (by omega)] at hz; subst hz; exact hK)))); (conv => whnf)) | ((with_reducible apply z_wrap); (focus omega); (conv => whnf)) | ((with_reducible refine mt_dec (fun _ => ?_) (fun _ => ?_)) <;> (conv => whnf)) | ((with_reducible refine mt_eq (fun _ => ?_) (fun _ => ?_)) <;> (conv => whnf)) | ((with_reducible refine mt_ne (fun _ => ?_) (fun _ => ?_)) <;> (conv => whnf)) | ((with_reducible refine mt_not (fun _ => ?_) (fun _ => ?_)) <;> (conv => whnf)) | ((with_reducible refine mt_any (fun _ => ?_) (fun _ => ?_)) <;> (conv => whnf)))
          refine (remove_ok d3 nA).mono ?_
          rw [hd3, mv4]
          rintro _ _ ⟨d4, rfl, rfl, hd4⟩
          conv => whnf
          ((with_reducible refine (num9_ok 3).mono ?_); rintro _ _ ⟨rfl, rfl⟩; (conv => whnf))
          repeat' (first | ((with_reducible apply rd_intro); (focus (intro K hK; (conv => whnf); first | exact hK | (intro z hz; rw [wrapI (by omega)] at hz; subst hz; exact hK))); (conv => whnf)) | ((with_reducible apply gd_and); (focus ((conv => whnf); first | rfl | (intro K hK; (conv => whnf); first | exact hK | (intro z hz; rw [wrapI (by omega)] at hz; subst hz; exact hK)))); (conv => whnf)) | ((with_reducible apply z_wrap); (focus omega); (conv => whnf)) | ((with_reducible refine mt_dec (fun _ => ?_) (fun _ => ?_)) <;> (conv => whnf)) | ((with_reducible refine mt_eq (fun _ => ?_) (fun _ => ?_)) <;> (conv => whnf)) | ((with_reducible refine mt_ne (fun _ => ?_) (fun _ => ?_)) <;> (conv => whnf)) | ((with_reducible refine mt_not (fun _ => ?_) (fun _ => ?_)) <;> (conv => whnf)) | ((with_reducible refine mt_any (fun _ => ?_) (fun _ => ?_)) <;> (conv => whnf)))
          refine (remove_ok d4 nB).mono ?_
          rw [hd4, mv5]
          rintro _ _ ⟨d5, rfl, rfl, hd5⟩
          conv => whnf
          ((with_reducible refine (num9_ok 0).mono ?_); rintro _ _ ⟨rfl, rfl⟩; (conv => whnf))
          repeat' (first | ((with_reducible apply rd_intro); (focus (intro K hK; (conv => whnf); first | exact hK | (intro z hz; rw [wrapI (by omega)] at hz; subst hz; exact hK))); (conv => whnf)) | ((with_reducible apply gd_and); (focus ((conv => whnf); first | rfl | (intro K hK; (conv => whnf); first | exact hK | (intro z hz; rw [wrapI (by omega)] at hz; subst hz; exact hK)))); (conv => whnf)) | ((with_reducible apply z_wrap); (focus omega); (conv => whnf)) | ((with_reducible refine mt_dec (fun _ => ?_) (fun _ => ?_)) <;> (conv => whnf)) | ((with_reducible refine mt_eq (fun _ => ?_) (fun _ => ?_)) <;> (conv => whnf)) | ((with_reducible refine mt_ne (fun _ => ?_) (fun _ => ?_)) <;> (conv => whnf)) | ((with_reducible refine mt_not (fun _ => ?_) (fun _ => ?_)) <;> (conv => whnf)) | ((with_reducible refine mt_any (fun _ => ?_) (fun _ => ?_)) <;> (conv => whnf)))
          refine (list_ok d5 (by rw [hd5]; exact fine0 a.bytes hbl 5 _ (.inr (.inr rfl)))).mono ?_
          rintro _ _ ⟨ss, hss, rfl, rfl⟩
          obtain rfl : ss = [] := by rw [hd5] at hss; exact List.perm_nil.1 (hss.2.1 rfl)
          have hoff : d5.off = false := by have := congrArg DD.off hd5; exact this
          rw [hoff, show (if false = true then 9 else 0 : Int) = 0 from rfl]
          conv => whnf
          repeat' (first | ((with_reducible apply rd_intro); (focus (intro K hK; (conv => whnf); first | exact hK | (intro z hz; rw [wrapI (by omega)] at hz; subst hz; exact hK))); (conv => whnf)) | ((with_reducible apply gd_and); (focus ((conv => whnf); first | rfl | (intro K hK; (conv => whnf); first | exact hK | (intro z hz; rw [wrapI (by omega)] at hz; subst hz; exact hK)))); (conv => whnf)) | ((with_reducible apply z_wrap); (focus omega); (conv => whnf)) | ((with_reducible refine mt_dec (fun _ => ?_) (fun _ => ?_)) <;> (conv => whnf)) | ((with_reducible refine mt_eq (fun _ => ?_) (fun _ => ?_)) <;> (conv => whnf)) | ((with_reducible refine mt_ne (fun _ => ?_) (fun _ => ?_)) <;> (conv => whnf)) | ((with_reducible refine mt_not (fun _ => ?_) (fun _ => ?_)) <;> (conv => whnf)) | ((with_reducible refine mt_any (fun _ => ?_) (fun _ => ?_)) <;> (conv => whnf)))
          refine (read_ok d5 (by rw [hd5]; exact ⟨by simp⟩) nB).mono ?_
          rw [hd5, mv6]
          rintro _ _ ⟨rfl, rfl⟩
          conv => whnf
          ((with_reducible refine (num9_ok 0).mono ?_); rintro _ _ ⟨rfl, rfl⟩; (conv => whnf))
          repeat' (first | ((with_reducible apply rd_intro); (focus (intro K hK; (conv => whnf); first | exact hK | (intro z hz; rw [wrapI (by omega)] at hz; subst hz; exact hK))); (conv => whnf)) | ((with_reducible apply gd_and); (focus ((conv => whnf); first | rfl | (intro K hK; (conv => whnf); first | exact hK | (intro z hz; rw [wrapI (by omega)] at hz; subst hz; exact hK)))); (conv => whnf)) | ((with_reducible apply z_wrap); (focus omega); (conv => whnf)) | ((with_reducible refine mt_dec (fun _ => ?_) (fun _ => ?_)) <;> (conv => whnf)) | ((with_reducible refine mt_eq (fun _ => ?_) (fun _ => ?_)) <;> (conv => whnf)) | ((with_reducible refine mt_ne (fun _ => ?_) (fun _ => ?_)) <;> (conv => whnf)) | ((with_reducible refine mt_not (fun _ => ?_) (fun _ => ?_)) <;> (conv => whnf)) | ((with_reducible refine mt_any (fun _ => ?_) (fun _ => ?_)) <;> (conv => whnf)))
          refine (crash_same d5 (by rw [hd5]; exact fine0 a.bytes hbl 5 _ (.inr (.inr rfl))) a.picks hpk (by omega) (by rw [hd5]; simp)).mono ?_
          rw [hd5]
          rintro _ _ ⟨ss, hss, _, rfl, rfl⟩
          obtain rfl : ss = [] := List.perm_nil.1 hss
          rw [show (crashAt (pickFs [] (DD.mk 5 false 0 []).fs) a.picks ([] : List ByteArray).length).1 = [] by rfl]
          conv => whnf
          repeat' (first | ((with_reducible apply rd_intro); (focus (intro K hK; (conv => whnf); first | exact hK | (intro z hz; rw [wrapI (by omega)] at hz; subst hz; exact hK))); (conv => whnf)) | ((with_reducible apply gd_and); (focus ((conv => whnf); first | rfl | (intro K hK; (conv => whnf); first | exact hK | (intro z hz; rw [wrapI (by omega)] at hz; subst hz; exact hK)))); (conv => whnf)) | ((with_reducible apply z_wrap); (focus omega); (conv => whnf)) | ((with_reducible refine mt_dec (fun _ => ?_) (fun _ => ?_)) <;> (conv => whnf)) | ((with_reducible refine mt_eq (fun _ => ?_) (fun _ => ?_)) <;> (conv => whnf)) | ((with_reducible refine mt_ne (fun _ => ?_) (fun _ => ?_)) <;> (conv => whnf)) | ((with_reducible refine mt_not (fun _ => ?_) (fun _ => ?_)) <;> (conv => whnf)) | ((with_reducible refine mt_any (fun _ => ?_) (fun _ => ?_)) <;> (conv => whnf)))
          ((with_reducible refine (num9_ok 3).mono ?_); rintro _ _ ⟨rfl, rfl⟩; (conv => whnf))
          repeat' (first | ((with_reducible apply rd_intro); (focus (intro K hK; (conv => whnf); first | exact hK | (intro z hz; rw [wrapI (by omega)] at hz; subst hz; exact hK))); (conv => whnf)) | ((with_reducible apply gd_and); (focus ((conv => whnf); first | rfl | (intro K hK; (conv => whnf); first | exact hK | (intro z hz; rw [wrapI (by omega)] at hz; subst hz; exact hK)))); (conv => whnf)) | ((with_reducible apply z_wrap); (focus omega); (conv => whnf)) | ((with_reducible refine mt_dec (fun _ => ?_) (fun _ => ?_)) <;> (conv => whnf)) | ((with_reducible refine mt_eq (fun _ => ?_) (fun _ => ?_)) <;> (conv => whnf)) | ((with_reducible refine mt_ne (fun _ => ?_) (fun _ => ?_)) <;> (conv => whnf)) | ((with_reducible refine mt_not (fun _ => ?_) (fun _ => ?_)) <;> (conv => whnf)) | ((with_reducible refine mt_any (fun _ => ?_) (fun _ => ?_)) <;> (conv => whnf)))
          exact ⟨k + 1, rfl, rfl, by omega, by omega⟩
        · exact ⟨(), rfl, rfl, trivial⟩
      · exact ⟨(), rfl, rfl, trivial⟩
end Go.Proofs.Ytpedbknmkgcldaa

/- DiskMoves: for every script the law returns true, and its argument reads behind the call as it read before. No condition of ours. -/
namespace Go.Proofs.Ytpedbknmkgcldaa
open Go.Ab Go.RowKit Go.ChangeShapes Go.WideShapes Go.ChangeAt
theorem own : ownKnob Try.prog.godebug = none := by kernel_rfl
theorem laidOut : laidOutB Try.prog = true := by kernel_rfl
set_option maxRecDepth 100000 in
theorem diskMoves_lifted (os : Os) (started : os.Started) (H : Type) (enc : TypeId × Value → H) :
    ReturnsInHanded {} Try.checked os 5 .any (Rows.diskMovesSpec.pre6 enc Try.prog Try.f5 Rows.diskMovesRow.domain false) (Rows.diskMovesSpec.post enc Try.prog Try.f5 false true false false) := by
  refine returnsInHanded_of_change_sized (C := Try.checked) own started (by kernel_rfl) Try.func5
    (ChangeSpec.witness6 (enc := enc) (C := Try.checked) false ⟨#[], #[.agg #[.slice none 0 0, .slice none 0 0]], []⟩ 8 (by kernel_rfl) (by kernel_rfl) (by kernel_rfl) (by kernel_rfl)) ?_
  intro W base args ds gs before hval hW _ hsz _
  exact law_contract ttOk (f := Try.f5) (tb := 4) (t := 25) rfl rfl Try.underlying4 rfl (fun _ _ => rfl) laidOut (by kernel_rfl) (of_decide_eq_true (by kernel_rfl)) 6 (by kernel_rfl) argS
    (fun W base v ds h1 h2 => argS_ok Try.underlying25 h1 h2)
    (fun ds hd => by
      obtain ⟨p, hp, hok⟩ := script_of hd
      rw [hp]
      exact diskMoves_ok p hok) hval hW hsz
theorem diskMoves_holds : Rows.DiskMovesSaid :=
  OpenClaim.holds_of_wide 5 Try.f5 rfl rfl rfl rfl rfl rfl rfl ⟨rfl, rfl, rfl, rfl, rfl⟩ rfl rfl rfl rfl rfl (by kernel_rfl) Try.func5 (by kernel_rfl)
    (of_decide_eq_true (by kernel_rfl)) (by unfold Func.isWrapper; first | (rw [if_pos (by decide +kernel)]; kernel_rfl) | (rw [if_neg (by decide +kernel)]; exact ⟨rfl, rfl⟩))
    (fun os started H enc _ => diskMoves_lifted os started H enc)
#print axioms diskMoves_holds
end Go.Proofs.Ytpedbknmkgcldaa
