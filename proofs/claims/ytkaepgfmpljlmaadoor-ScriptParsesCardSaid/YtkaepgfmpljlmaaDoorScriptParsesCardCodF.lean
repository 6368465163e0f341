/- The act of any line is the page's, or there is none -/
import Derived.Test.YtkaepgfmpljlmaaDoorScriptParsesCardCodE
import Derived.ArgAppend
import Derived.Handed
import Derived.HandedShaped
import Derived.Lay
import Derived.LaidLaws
import Derived.LaidHandle
import Derived.MakeChecks
import Derived.Lib.LaidU8
import Derived.Shelf.Vars
import Derived.ProofKit
import Derived.Test.YtkaepgfmpljlmaaDoorRows
import Derived.SevenTiedAt
import Derived.Test.YtkaepgfmpljlmaaDoorCards
import Derived.Test.YtkaepgfmpljlmaaDoorTie
set_option linter.unusedVariables false
set_option linter.unusedSimpArgs false
namespace Go.Proofs.YtkaepgfmpljlmaaDoor
open Go.Ab Go.RowKit Go.Scr Go.Proofs
attribute [local irreducible] ACalls AW ADraw Into fltB fnear
set_option maxRecDepth 100000
def actPO (f : Int × W × W) (r : Rd) (av : AV) (L : List AB) : Prop :=
  ((actF f.2.2 f.1 r).1.bytes = [] ∧ (actF f.2.2 f.1 r).1.picks = [] ∧ av = .agg (actC (actF f.2.2 f.1 r).1 (.d .nils) (.d .nils)) ∧ L = (actF f.2.2 f.1 r).2.L) ∨
  ((actF f.2.2 f.1 r).1.bytes = [] ∧ (actF f.2.2 f.1 r).1.picks ≠ [] ∧ av = .agg (actC (actF f.2.2 f.1 r).1 (.arr 1) (.d .nils)) ∧ L = (actF f.2.2 f.1 r).2.L ++ [.row 3 1 (nums (actF f.2.2 f.1 r).1.picks) false]) ∨
  (∃ cap, (actF f.2.2 f.1 r).1.picks = [] ∧ (bw (actF f.2.2 f.1 r).1.bytes).size ≤ cap ∧ cap ≤ maxLen ∧ av = .agg (actC (actF f.2.2 f.1 r).1 (.d .nils) (.arr 1)) ∧ L = (actF f.2.2 f.1 r).2.L ++ [obsB (actF f.2.2 f.1 r).1.bytes cap])
theorem act_rokO {f : Int × W × W} (hf : f ∈ formsL) (r : Rd) (hr : r.fit) (hlen : r.l.length ≤ 1000000000) : ACalls Tryd.prog 24 [.ptr 0 0, formA f] r.L (actPO f r) := by
  have nil : ∀ {g : Int × W × W} {av : AV} {L : List AB}, (actF g.2.2 g.1 r).1.picks = [] → (actF g.2.2 g.1 r).1.bytes = [] → (av = .agg (actC (actF g.2.2 g.1 r).1 (.d .nils) (.d .nils)) ∧ L = (actF g.2.2 g.1 r).2.L) → actPO g r av L :=
    fun h1 h2 h => .inl ⟨h2, h1, h.1, h.2⟩
  have pks : ∀ {g : Int × W × W} {av : AV} {L : List AB}, (actF g.2.2 g.1 r).1.bytes = [] → pkP (actF g.2.2 g.1 r) av L → actPO g r av L := fun h2 h => by
    rcases h with ⟨k1, k2, k3⟩ | ⟨k0, k1, k2⟩
    · exact .inl ⟨h2, k1, k2, k3⟩
    · exact .inr (.inl ⟨h2, k0, k1, k2⟩)
  simp only [formsL, List.mem_cons, List.not_mem_nil, or_false] at hf
  rcases hf with rfl | rfl | rfl | rfl | rfl | rfl | rfl | rfl | rfl | rfl
  · exact (act_n (_, _) r hr).mono fun _ _ h => nil rfl rfl h
  · exact (act_nt (_, _) r hr).mono fun _ _ h => nil rfl rfl h
  · exact (act_npk (_, _) r hr).mono fun _ _ h => nil rfl rfl h
  · exact (act_npk (_, _) r hr).mono fun _ _ h => nil rfl rfl h
  · exact (act_npk (_, _) r hr).mono fun _ _ h => nil rfl rfl h
  · exact (act_nl (_, _) r hr hlen).mono fun _ _ h => pks rfl h
  · exact (act_n (_, _) r hr).mono fun _ _ h => nil rfl rfl h
  · exact (act_nkl (_, _) r hr hlen).mono fun _ _ h => pks rfl h
  · exact act_npbO (_, _) r hr _ fun cap h1 h2 => .inr (.inr ⟨cap, rfl, h1, h2, rfl, rfl⟩)
  · exact (act_k (_, _) r hr).mono fun _ _ h => nil rfl rfl h
theorem parse_rokO (s : ByteArray) (hs : s.size ≤ 1000000) (Q : AV → List AB → Prop)
    (hA : ∀ a, parseS s.data.toList = some a → a.picks = [] → a.bytes = [] → Q (.tup [.agg (actC a (.d .nils) (.d .nils)), .d (.int .i64 0)]) [])
    (hO : ∀ a cap, parseS s.data.toList = some a → a.picks = [] → (bw a.bytes).size ≤ cap → cap ≤ maxLen → Q (.tup [.agg (actC a (.d .nils) (.arr 0)), .d (.int .i64 0)]) [obsB a.bytes cap])
    (hB : ∀ a, parseS s.data.toList = some a → a.bytes = [] → a.picks ≠ [] → Q (.tup [.agg (actC a (.arr 0) (.d .nils)), .d (.int .i64 0)]) [.row 3 1 (nums a.picks) false])
    (hC : parseS s.data.toList = none → Q (.tup [.agg (actC (zeroS 0) (.d .nils) (.d .nils)), .d (.int .i64 1)]) []) : ACalls Tryd.prog 9 [.d (.str s)] [] Q := by
  have hsp := split_ok s (by omega)
  obtain ⟨w, ws, hw⟩ := words_cons s.data.toList
  have hsl : s.data.toList.length = s.size := rfl
  have hwl := words_count s.data.toList
  have hwe := words_each s.data.toList
  rw [hw] at hsp hwl hwe
  simp only [List.length_cons] at hwl
  have hword := word_ok ⟨w :: ws, false⟩
  have hfit : (⟨ws, false⟩ : Rd).fit := fun x hx => by
    have := hwe x (List.mem_cons_of_mem _ hx)
    omega
  (refine acalls_go ttOk zOk foOk Tryd.func9 rfl Tryd.ntmps9 rfl false rfl ?_); (conv => whnf)
  refine rdz ?_; repeat' ((with_reducible apply tw) <;> intro _)
  refine scope_go ttOk zOk foOk (psSt w ⟨ws, false⟩) (psInv s.data.toList w) psMu ?_ ?_
  · rintro l rest hl q hi
    rcases hi with ⟨rfl, i, rfl, hi, hno⟩ | ⟨rfl, rfl, hp⟩
    · have e := Option.some.inj (show some _ = some rest from hl)
      subst e
      clear hl
      conv => whnf
      refine rdz ?_; repeat' ((with_reducible apply tw) <;> intro _)
      · refine into_of [2] ?_
        conv => whnf
        refine ⟨none, rfl, rfl, .inr ⟨rfl, rfl, ?_⟩, ?_⟩
        · rename_i hie
          have hi10 : i = 10 := by
            have : (i : Int) = ((10 : Nat) : Int) := hie
            omega
          subst hi10
          exact parse_other hw hno
        · show 0 < 11 - i
          omega
      · rename_i hne
        have hlt : i < formsL.length := by
          have : (i : Int) ≠ ((10 : Nat) : Int) := hne
          have : formsL.length = 10 := rfl
          omega
        obtain ⟨f, hf⟩ : ∃ f, formsL[i]? = some f := ⟨_, List.getElem?_eq_getElem hlt⟩
        have hfm := List.mem_of_getElem? hf
        have hact := act_rokO hfm ⟨ws, false⟩ hfit (by show ws.length ≤ _; omega)
        ((with_reducible refine ix_map hf ?_ ?_); (focus (first | rfl | omega)); (conv => whnf))
        refine rdz ?_; repeat' ((with_reducible apply tw) <;> intro _)
        · rename_i hx
          refine into_of [2, 4, 5, 6, 7, 8] ?_
          conv => whnf
          refine ⟨some (i + 1), rfl, rfl, .inl ⟨rfl, i + 1, rfl, by have : formsL.length = 10 := rfl; omega, fun g hg => ?_⟩, by show 11 - (i + 1) < 11 - i; omega⟩
          rw [List.take_add_one, hf] at hg
          rcases List.mem_append.1 hg with hg | hg
          · exact hno g hg
          · simp only [Option.toList_some, List.mem_cons, List.not_mem_nil, or_false] at hg
            subst hg
            intro e
            rw [e, beq_self_eq_true] at hx
            cases hx
        · rename_i hx
          have hfw : f.2.1 = w := by
            have := eq_of_beq hx
            rw [ByteArray.toList_eq, ByteArray.toList_eq] at this
            exact this
          subst hfw
          have hpa := parse_at hfm hw
          have hok := actF_ok (forms_ok f hfm).1 f.1 ⟨ws, false⟩
          unfold actPO at hact
          rcases hq : actF f.2.2 f.1 ⟨ws, false⟩ with ⟨a, ⟨l2, b2⟩⟩
          rw [hq] at hact hok
          simp only at hact hok
          ((with_reducible refine ix_map hf ?_ ?_); (focus (first | rfl | omega)); (conv => whnf))
          refine rdz ?_; repeat' ((with_reducible apply tw) <;> intro _)
          refine hact.mono ?_
          have yes : b2 = false → ((wsD l2).length : Int) = 0 → parseS s.data.toList = some a := fun h1 h2 => by
            have hl : l2 = [] := List.eq_nil_of_length_eq_zero (by rw [wsD_length] at h2; omega)
            rw [hpa, (hok.1 h1).2, hl]
            rfl
          have no1 : b2 = false → ((wsD l2).length : Int) ≠ 0 → parseS s.data.toList = none := fun h1 h2 => by
            rw [hpa, (hok.1 h1).2]
            rcases l2 with _ | ⟨x, t⟩
            · exact absurd rfl h2
            · rfl
          have no2 : b2 = true → parseS s.data.toList = none := fun h1 => by
            rcases hok.2 h1 with h | h
            · cases h
            · rw [hpa, h]
              rfl
          clear hok hpa
          rintro _ _ (⟨hby, hpk, rfl, rfl⟩ | ⟨hby, hpn, rfl, rfl⟩ | ⟨cap, hpk, hc1, hc2, rfl, rfl⟩)
          · conv => whnf
            refine rdz ?_; repeat' ((with_reducible apply tw) <;> intro _)
            · rename_i h1 h2
              exact hA a (yes h1 h2) hpk hby
            · rename_i h1 h2
              refine AW_go ttOk zOk foOk ?_
              conv => whnf
              refine rdz ?_; repeat' ((with_reducible apply tw) <;> intro _)
              exact hC (no1 h1 h2)
            · rename_i h1
              refine AW_go ttOk zOk foOk ?_
              conv => whnf
              refine rdz ?_; repeat' ((with_reducible apply tw) <;> intro _)
              exact hC (no2 h1)
          · conv => whnf
            refine rdz ?_; repeat' ((with_reducible apply tw) <;> intro _)
            · rename_i h1 h2
              exact hB a (yes h1 h2) hby hpn
            · rename_i h1 h2
              refine AW_go ttOk zOk foOk ?_
              conv => whnf
              refine rdz ?_; repeat' ((with_reducible apply tw) <;> intro _)
              exact hC (no1 h1 h2)
            · rename_i h1
              refine AW_go ttOk zOk foOk ?_
              conv => whnf
              refine rdz ?_; repeat' ((with_reducible apply tw) <;> intro _)
              exact hC (no2 h1)
          · conv => whnf
            refine rdz ?_; repeat' ((with_reducible apply tw) <;> intro _)
            · rename_i h1 h2
              exact hO a cap (yes h1 h2) hpk hc1 hc2
            · rename_i h1 h2
              refine AW_go ttOk zOk foOk ?_
              conv => whnf
              refine rdz ?_; repeat' ((with_reducible apply tw) <;> intro _)
              exact hC (no1 h1 h2)
            · rename_i h1
              refine AW_go ttOk zOk foOk ?_
              conv => whnf
              refine rdz ?_; repeat' ((with_reducible apply tw) <;> intro _)
              exact hC (no2 h1)
    · have e := Option.some.inj (show some _ = some rest from hl)
      subst e
      clear hl
      conv => whnf
      refine rdz ?_; repeat' ((with_reducible apply tw) <;> intro _)
      exact hC hp
  · intro pass
    conv => whnf
    refine rdz ?_; repeat' ((with_reducible apply tw) <;> intro _)
    (refine (hsp).mono ?_; rintro _ _ ⟨rfl, rfl⟩; (conv => whnf))
    refine rdz ?_; repeat' ((with_reducible apply tw) <;> intro _)
    (refine (hword).mono ?_; rintro _ _ ⟨rfl, rfl⟩; (conv => whnf))
    refine rdz ?_; repeat' ((with_reducible apply tw) <;> intro _)
    (refine (forms_rok).mono ?_; rintro _ _ ⟨rfl, rfl⟩; (conv => whnf))
    refine rdz ?_; repeat' ((with_reducible apply tw) <;> intro _)
    refine aw_at (σ := Unit) (fun _ => psSt w ⟨ws, false⟩ (some 0)) (fun _ => True) [2, 4, 5, 6, 7, 8] ?_ ?_
    · conv => whnf
      exact ⟨(), rfl, rfl, trivial⟩
    · intro _ _
      exact pass 1 _ rfl (some 0) (.inl ⟨rfl, 0, rfl, by omega, fun f hf => by cases hf⟩)
theorem spoilN_ok (xs : List Int) (hm : xs.length ≤ 8000000000) : ACalls Tryd.prog 13 [.arr 0] [.row 3 1 (nums xs) false] (fun av L => av = .tup [] ∧ L = [.dead]) := by
  (refine acalls_go ttOk zOk foOk Tryd.func13 rfl Tryd.ntmps13 rfl true rfl ?_); (conv => whnf)
  refine loop_go2 ttOk zOk foOk (σ := Nat) (ρ := List Int) (fun k ys => ([(0, .arr 0), (2, .d (.int .i64 k))], [.row 3 1 (nums ys) false])) (fun k ys => k ≤ xs.length ∧ ys.length = xs.length) (fun k _ => xs.length - k) [0, 2] ?_ ?_
  · conv => whnf
    exact ⟨0, xs, rfl, rfl, by omega, rfl⟩
  · rintro k ys ⟨hk, hl⟩
    have hll := nums_length ys
    conv => whnf
    refine rdz ?_; repeat' ((with_reducible apply tw) <;> intro _)
    · rename_i h
      refine ⟨by omega, by rw [hll]; show k < _; omega, ?_⟩
      conv => whnf
      refine Exists.elim (⟨_, List.getElem?_eq_getElem (by omega)⟩ : ∃ y, ys[k]? = some y) fun y hy => ?_
      refine ⟨[.int .i64 y], nums_at hy, ?_⟩
      conv => whnf
      refine rdz ?_; repeat' ((with_reducible apply tw) <;> intro _)
      refine ⟨k + 1, ys.set k (-99), rfl, ?_, ⟨by omega, by simpa using hl⟩, by omega⟩
      simp [nums, List.map_set]
    · rename_i h
      refine ⟨by rw [nums_length, List.length_singleton]; show (_ + 1) * 8 ≤ _; omega, ?_⟩
      conv => whnf
      exact ⟨rfl, rfl⟩
inductive ShapeO (a : Sa) : AV → AV → List AB → Prop where
  | data (h : a.bytes = []) (hp : a.picks = []) : ShapeO a (.d .nils) (.d .nils) []
  | row (h : a.bytes = []) : ShapeO a (.arr 0) (.d .nils) [.row 3 1 (nums a.picks) false]
  | obs (cap : Nat) (hp : a.picks = []) (h1 : (bw a.bytes).size ≤ cap) (h2 : cap ≤ maxLen) : ShapeO a (.d .nils) (.arr 0) [obsB a.bytes cap]
theorem quiet0 : (true : Bool) = msg0.zero := by decide
theorem few0 : msg0.few := by constructor <;> first | exact (show (0 : Nat) ≤ 140737488355328 by decide) | (constructor <;> exact (show (0 : Nat) ≤ 140737488355328 by decide))
end Go.Proofs.YtkaepgfmpljlmaaDoor
open Go Go.Claim Go.Scr Go.Proofs Go.Ab Go.RowKit
namespace Go.Proofs.YtkaepgfmpljlmaaDoor
structure But (b : Nat) (w w' : World) : Prop where
  os : w'.os = w.os
  tape : w'.tape = w.tape
  output : w'.output = w.output
  size : w.heap.size ≤ w'.heap.size
  block : ∀ k, k ≠ b → k < w.heap.size → w'.heap[k]? = w.heap[k]?
theorem setCell_at {w : World} {b k : Nat} {v : Value} {c : Array Value} {e : TypeId} {mk : Nat × Nat} (h : w.heap[b]? = some (.cells c e mk)) : (w.setCell ⟨b, k, none⟩ v).heap[b]? = some (.cells (c.setIfInBounds k v) e mk) := by
  simp [World.setCell, Array.getElem?_modify, h]
theorem setCell_ne {w : World} {b k j : Nat} {v : Value} (h : j ≠ b) : (w.setCell ⟨b, k, none⟩ v).heap[j]? = w.heap[j]? := by
  simp [World.setCell, Array.getElem?_modify, Ne.symm h]
theorem setCell_size {w : World} {a : Addr} {v : Value} : (w.setCell a v).heap.size = w.heap.size := by simp [World.setCell]
theorem But.set {b k : Nat} {v : Value} {w w' : World} (h : But b w w') : But b w (w'.setCell ⟨b, k, none⟩ v) :=
  ⟨h.os, h.tape, h.output, by rw [setCell_size]; exact h.size, fun j hj hl => by rw [setCell_ne hj]; exact h.block j hj hl⟩
theorem But.push {b : Nat} {w w' : World} (h : But b w w') (o : Obj) : But b w (w'.alloc o) :=
  ⟨h.os, h.tape, h.output, Nat.le_trans h.size (Keeps.alloc w' o).size, fun j hj hl => by rw [heap_alloc_old w' o (Nat.lt_of_lt_of_le hl h.size)]; exact h.block j hj hl⟩
theorem xor85' : ∀ a : Fin 256, 0 ≤ bits BinOp.xor IntKind.u8 (a.val : Int) 85 ∧ bits BinOp.xor IntKind.u8 (a.val : Int) 85 < 256 := by decide +kernel
theorem xor85 {x : Int} (h0 : 0 ≤ x) (h1 : x < 256) : 0 ≤ bits BinOp.xor IntKind.u8 x 85 ∧ bits BinOp.xor IntKind.u8 x 85 < 256 := by
  have := xor85' ⟨x.toNat, by omega⟩
  rwa [show ((⟨x.toNat, by omega⟩ : Fin 256).val : Int) = x by show ((x.toNat : Nat) : Int) = x; omega] at this
theorem Tryd.info5u : (Tryd.prog.info? 5).map (fun i => (i.zero, i.size, i.bytes)) = some (some (.int .u8 0), 1, 1) := by kernel_rfl
set_option maxRecDepth 100000 in
theorem Tryd.spoilB (b n : Nat) (w : World) (cur : Array Value) (mk : Nat × Nat) (hb : w.heap[b]? = some (.cells cur 5 mk)) (hn : n ≤ cur.size) (hlim : n ≤ 70368744177664) (hmk : mk = (cur.size, cur.size + 1)) (hcells : ∀ j, j < n → ∃ x : Int, 0 ≤ x ∧ x < 256 ∧ cur[j]? = some (.int .u8 x)) :
    Calls Tryd.prog 14 #[.slice (some ⟨b, 0, none⟩) n cur.size] w fun e w' => e = .returned (.tuple #[]) ∧ But b w w' ∧ ∃ cur2, w'.heap[b]? = some (.cells cur2 5 mk) := by
  go_enter Tryd.func14, Tryd.ntmps14
  go_wp2
  go_loopw [2] (fun i wr => ∃ k : Nat, k ≤ n ∧ i = .int .i64 k ∧ But b w wr ∧ ∃ c2 : Array Value, c2.size = cur.size ∧ wr.heap[b]? = some (.cells c2 5 mk) ∧ ∀ j, j < n → ∃ x : Int, 0 ≤ x ∧ x < 256 ∧ c2[j]? = some (.int .u8 x))
    (fun i _ => n - (intOf i).toNat)
  case atStart => exact ⟨0, Nat.zero_le _, rfl, ⟨rfl, rfl, rfl, Nat.le_refl _, fun _ _ _ => rfl⟩, cur, rfl, hb, hcells⟩
  case round =>
    obtain ⟨k, hk, rfl, hB, c2, hc2, hb2, hx⟩ := hrel
    by_cases hk2 : k < n
    · obtain ⟨x, x0, x1, hxk⟩ := hx k hk2
      have hcell : wr.cell? { block := b, off := k } = some (.int .u8 x) := by rw [cell_of_row wr b k c2 5 mk hb2]; exact hxk
      have hfz : wr.frozen? { block := b, off := k } = false := by
        simp only [World.frozen?, hb2, hmk]
        simp
        omega
      go_wp2
      refine ⟨⟨k + 1, by omega, by go_num, hB.set, c2.setIfInBounds k (Value.int IntKind.u8 (bits BinOp.xor IntKind.u8 x 85)), by rw [Array.size_setIfInBounds]; exact hc2, setCell_at hb2, fun j hj => ?_⟩, by simp [intOf]; omega⟩
      by_cases hjk : k = j
      · subst hjk
        have hlt2 : k < c2.size := by rw [hc2]; exact Nat.lt_of_lt_of_le hk2 hn
        exact ⟨_, (xor85 x0 x1).1, (xor85 x0 x1).2, by rw [Array.getElem?_setIfInBounds_self_of_lt hlt2]⟩
      · rw [Array.getElem?_setIfInBounds_ne hjk]
        exact hx j hj
    · obtain rfl : k = n := by omega
      obtain ⟨i0, hi, hz0, hz1, hz2⟩ := info_parts Tryd.info5u
      have hbw : b < wr.heap.size := (Array.getElem?_eq_some_iff.1 hb2).1
      have hcl : ∀ j, wr.cell? ⟨b, j, none⟩ = c2[j]? := fun j => cell_of_row wr b j c2 5 mk hb2
      go_wp2_with (at_builtin; refine wpList_append_arg _ rfl (.tmp 17) (.tmp 18) 36 rfl 5 i0 (.int .u8 0) 1 1 Tryd.underlying36 hi hz0 hz1 hz2 rfl (by decide) b 0 k cur.size (c2.toList.take k) rfl ?lo ?olds ⟨wr.heap.size, 0, none⟩ 1 1 [.int .u8 5] rfl rfl ?c1 ?c2 ?spare ?b1 ?b2 ?room ?grow)
      case lo => rw [List.length_take, Array.length_toList]; omega
      case olds =>
        intro j u hu
        rw [World.cell?_alloc_past _ _ _ hbw, Nat.zero_add, hcl j]
        rw [List.getElem?_take] at hu
        split at hu
        · simpa using hu
        · cases hu
      case c1 => intro j u hj; match j, hj with | 0, hj => simp at hj; subst hj; simp [Addr.add]
      case c2 => intro u hu; simp at hu; subst hu; rfl
      case spare =>
        intro hr j hj
        have hj0 : j = 0 := by simpa using hj
        subst hj0
        rw [World.cell?_alloc_past _ _ _ hbw, World.frozen?_alloc_past _ _ _ hbw, Nat.mul_one, Nat.add_zero, Nat.zero_add, hcl k]
        refine ⟨by rw [Array.getElem?_eq_getElem (by omega)]; rfl, ?_⟩
        simp only [World.frozen?, hb2, hmk]
        simp
        omega
      case b1 => unfold maxLen; omega
      case b2 => omega
      case room =>
        intro hr
        go_wp2
        go_end0
        have hb3 : (wr.alloc (Obj.cells #[Value.int IntKind.u8 5] 5)).heap[b]? = some (.cells c2 5 mk) := by rw [heap_alloc_old wr _ hbw]; exact hb2
        refine ⟨rfl, ?_, c2.setIfInBounds k (.int .u8 5), ?_⟩
        · simp only [World.setCells]
          exact (hB.push _).set
        · simp only [World.setCells]
          exact setCell_at hb3
      case grow =>
        intro hg v' w' hown hgrow
        go_wp2
        go_end0
        have hB2 := hB.push (Obj.cells #[Value.int IntKind.u8 5] 5)
        have hb3 : (wr.alloc (Obj.cells #[Value.int IntKind.u8 5] 5)).heap[b]? = some (.cells c2 5 mk) := by rw [heap_alloc_old wr _ hbw]; exact hb2
        have hbw2 : b < (wr.alloc (Obj.cells #[Value.int IntKind.u8 5] 5)).heap.size := (Array.getElem?_eq_some_iff.1 hb3).1
        refine ⟨rfl, ⟨hgrow.os.trans hB2.os, hgrow.tape.trans hB2.tape, hgrow.output.trans hB2.output, Nat.le_trans hB2.size hgrow.size, fun j hj hl => ?_⟩, c2, ?_⟩
        · rw [hgrow.block j (Nat.lt_of_lt_of_le hl hB2.size) (fun h => by cases h)]
          exact hB2.block j hj hl
        · rw [hgrow.block b hbw2 (fun h => by cases h)]
          exact hb3
end Go.Proofs.YtkaepgfmpljlmaaDoor
namespace Go.Proofs.YtkaepgfmpljlmaaDoor
open Go.Ab Go.RowKit Go.Scr Go.Proofs
attribute [local irreducible] ACalls AW ADraw Into fltB fnear
set_option maxRecDepth 100000
unseal ACalls in
theorem spoilBO (s : W) (cap : Nat) (hs : s.length ≤ 70368744177664) (h1 : (bw s).size ≤ cap) : ACalls Tryd.prog 14 [.arr 0] [obsB s cap] (fun av L => av = .tup [] ∧ ∃ o, L = [.obs o (bw s).size cap]) := by
  intro c vs hc hL hsim hv
  simp only [VRt, VR] at hv
  obtain ⟨u, us', hvs, ⟨ab, hab, har⟩, rfl⟩ := hv
  have hi : ([obsB s cap] : List AB)[0]? = some (obsB s cap) := rfl
  rw [hi] at hab
  cases hab
  obtain ⟨b, hE, rfl⟩ := har
  obtain ⟨b', hE', hh⟩ := hsim.blk 0 _ hi
  rw [hE] at hE'
  cases hE'
  have hvs' : vs = #[.slice (some ⟨b, 0, none⟩) (bw s).size cap] := by rw [← Array.toArray_toList (xs := vs), hvs]
  have hsz : (bytesRow (bw s) cap).size = cap := by
    unfold bytesRow
    rw [Array.size_append, Array.size_map, Array.size_replicate]
    have : (bw s).data.size = (bw s).size := rfl
    omega
  have hrun := Tryd.spoilB b (bw s).size c.w0 (bytesRow (bw s) cap) _ hh (by rw [hsz]; exact h1) hs rfl (fun j hj => by
    have hj2 : j < (bw s).data.size := hj
    refine ⟨((bw s).data[j]).toNat, by omega, by have := ((bw s).data[j]).toNat_lt; omega, ?_⟩
    unfold bytesRow
    rw [Array.getElem?_append_left (by simpa using hj2)]
    simp only [Array.getElem?_map, Array.getElem?_eq_getElem hj2]
    rfl)
  rw [hsz] at hrun
  rw [hvs']
  refine hrun.mono ?_
  rintro e w' ⟨rfl, hB, cur2, hcur⟩
  have hlt : b < c.w0.heap.size := (Array.getElem?_eq_some_iff.1 hh).1
  let w1 : World := { c.w0 with heap := c.w0.heap.setIfInBounds b (.cells cur2 5 (cap, cap + 1)) }
  have k : TurnsE (c.E0 0) c.w0 w1 := by
    rw [hE]
    exact ⟨rfl, rfl, rfl, by simp [w1], fun k hk => Array.getElem?_setIfInBounds_ne fun e => hk (by rw [e])⟩
  have hle : (rcOf c.M0 c.E0 [obsB s cap] c.w0).le (rcOf c.M0 c.E0 ([obsB s cap].set 0 (.obs (.cells cur2 5 (cap, cap + 1)) (bw s).size cap)) w1) :=
    le_set hsim hi rfl k (fun _ _ => trivial) (fun b' o u _ hm _ => absurd trivial hm) rfl (fun v hv => hv) (fun j o v hv => hv.elim) (fun x hx => by simp [AB.boxes] at hx)
  have hs1 := hsim.setE hi rfl k hle rfl ⟨b, hE, by show (c.w0.heap.setIfInBounds b _)[b]? = _; simp [hlt]⟩ rfl
  have hk : Keeps w1 w' := ⟨hB.os, hB.tape, hB.output, by show (c.w0.heap.setIfInBounds b _).size ≤ _; rw [Array.size_setIfInBounds]; exact hB.size, fun j hj => by
    have hj2 : j < c.w0.heap.size := by simpa [w1] using hj
    by_cases hjb : j = b
    · subst hjb
      show w'.heap[j]? = (c.w0.heap.setIfInBounds j _)[j]?
      rw [hcur]
      simp [hlt]
    · show w'.heap[j]? = (c.w0.heap.setIfInBounds b _)[j]?
      rw [Array.getElem?_setIfInBounds_ne (Ne.symm hjb)]
      exact hB.block j hjb hj2⟩
  exact ⟨_, .tup [], _, c.E0, rfl, ⟨rfl, _, rfl⟩, hs1.keeps hc hk, by simp [VR, VRt]⟩
inductive ShapeR (a : Sa) : AV → AV → List AB → Prop where
  | rows (h : a.bytes = []) : ShapeR a (.arr 0) (.arr 1) [.row 3 1 (nums a.picks) false, .row 5 1 [] false]
  | obs (cap : Nat) (hp : a.picks = []) (h1 : (bw a.bytes).size ≤ cap) (h2 : cap ≤ maxLen) : ShapeR a (.arr 1) (.arr 0) [obsB a.bytes cap, .row 3 1 [] false]
  | obs2 (cap : Nat) (hp : a.picks = []) (h1 : (bw a.bytes).size ≤ cap) (h2 : cap ≤ maxLen) : ShapeR a (.arr 0) (.arr 1) [.row 3 1 [] false, obsB a.bytes cap]
theorem parse_up {s : ByteArray} {a : Sa} {z : Int} (h : ACalls Tryd.prog 9 [.d (.str s)] [] (fun av L => ∃ pk bs, ShapeO a pk bs L ∧ av = .tup [.agg (actC a pk bs), .d (.int .i64 z)])) : ACalls Tryd.prog 9 [.d (.str s)] [] (fun av L => ∃ pk bs, ShapeR a pk bs L ∧ av = .tup [.agg (actC a pk bs), .d (.int .i64 z)]) := by
  refine acalls_rowUp (post := fun av L => (∃ pk bs, ShapeR a pk bs L ∧ av = .tup [.agg (actC a pk bs), .d (.int .i64 z)]) ∨ (a.bytes = [] ∧ L = [.row 3 1 (nums a.picks) false] ∧ av = .tup [.agg (actC a (.arr 0) (.d .nils)), .d (.int .i64 z)])) (acalls_rowUp h ?_) ?_
  · rintro av L ⟨pk, bs, hs, rfl⟩
    cases hs with
    | data hb hp => exact .inr ⟨3, 1, 4, _, _, by decide, rfl, rfl, .inr ⟨hb, by rw [hp]; rfl, rfl⟩⟩
    | row hb => exact .inl (.inr ⟨hb, rfl, rfl⟩)
    | obs cap hp h1 h2 => exact .inr ⟨3, 1, 4, _, _, by decide, rfl, rfl, .inl ⟨_, _, .obs cap hp h1 h2, rfl⟩⟩
  · rintro av L (h1 | ⟨hb, rfl, rfl⟩)
    · exact .inl h1
    · exact .inr ⟨5, 1, 27, _, _, by decide, rfl, rfl, ⟨_, _, .rows hb, rfl⟩⟩
theorem spoilB_row : ACalls Tryd.prog 14 [.arr 0] [.row 5 1 [] false] (fun av L => av = .tup [] ∧ L = [.dead]) := by
  (refine acalls_go ttOk zOk foOk Tryd.func14 rfl Tryd.ntmps14 rfl true rfl ?_); (conv => whnf)
  refine loop_go ttOk zOk foOk (σ := Unit) (fun _ => ([(0, .arr 0), (2, .d (.int .i64 0))], [.row 5 1 [] false])) (fun _ => True) (fun _ => 0) [0, 2] ?_ ?_
  · conv => whnf
    exact ⟨(), rfl, rfl, trivial⟩
  · intro _ _
    conv => whnf
    refine rdz ?_; repeat' ((with_reducible apply tw) <;> intro _)
    refine ⟨by show (0 + 1) * 1 ≤ 140737488355328; decide, ?_⟩
    conv => whnf
    exact ⟨rfl, rfl⟩
theorem ShapeR.lend {a : Sa} {pk bs : AV} {L : List AB} (h : ShapeR a pk bs L) : ∃ pk2 bs2 : DV, lend1 L pk (.d pk2) ∧ lend1 L bs (.d bs2) ∧ NW (.d pk2) (.d (.sl 1 (nums a.picks))) ∧ NW (.d bs2) (.d (.sl 1 (u8s a.bytes))) := by
  cases h with
  | rows h => exact ⟨_, _, .inr (.inl ⟨0, _, _, _, _, rfl, rfl, rfl⟩), .inr (.inl ⟨1, _, _, _, _, rfl, rfl, rfl⟩), .refl _, by rw [h]; exact .refl _⟩
  | obs cap hp h1 h2 => exact ⟨_, _, .inr (.inl ⟨1, _, _, _, _, rfl, rfl, rfl⟩), .inr (.inr (.inr ⟨0, _, bw a.bytes, cap, rfl, rfl, h1, h2, rfl⟩)), by rw [hp]; exact .refl _, .refl _⟩
  | obs2 cap hp h1 h2 => exact ⟨_, _, .inr (.inl ⟨0, _, _, _, _, rfl, rfl, rfl⟩), .inr (.inr (.inr ⟨1, _, bw a.bytes, cap, rfl, rfl, h1, h2, rfl⟩)), by rw [hp]; exact .refl _, .refl _⟩
theorem sameR {a b : Sa} (hq : b.quiet = true) (ha : Sa.sized a) {pk bs : AV} {L : List AB} (hs : ShapeR a pk bs L) {pk3 bs3 : DV} (h5 : NW (.d pk3) (.d (.sl 1 (nums b.picks)))) (h6 : NW (.d bs3) (.d (.sl 1 (u8s b.bytes)))) : ACalls Tryd.prog 12 [.agg (actC a pk bs), .agg (actC b (.d pk3) (.d bs3))] L (fun av L' => av = .d (.bool (sameB a b)) ∧ L' = L) := by
  obtain ⟨pk2, bs2, h1, h2, h3, h4⟩ := hs.lend
  exact acalls_lend (flat_bool _) (avs' := [.agg (actC a (.d pk2) (.d bs2)), .agg (actC b (.d pk3) (.d bs3))]) ⟨_, _, rfl, .inr ⟨_, _, rfl, rfl, lend_actC a h1 h2⟩, _, _, rfl, .inr ⟨_, _, rfl, rfl, lend_actC b (.inl ⟨_, rfl, rfl⟩) (.inl ⟨_, rfl, rfl⟩)⟩, rfl⟩
    (acalls_nw (Same_ok a b msg0 few0 (hq.trans quiet0) ha) (.cons (nw_actC a h3 h4) (.cons (nw_actC b h5 h6) .nil)))
theorem sameB_self {a : Sa} (h : a.quiet = true) : sameB a a = true := (sameB_iff a a).2 ⟨rfl, rfl, rfl, rfl, ⟨rfl, rfl, rfl, rfl⟩, rfl, rfl, h⟩
theorem zero_sized : Sa.sized (zeroS 0) := ⟨zero_fit 0, Nat.zero_le _, Nat.zero_le _, Nat.zero_le _, Nat.zero_le _⟩
theorem parse_yesO {s : ByteArray} (hs : s.size ≤ 1000000) {a : Sa} (h : parseS s.data.toList = some a) : ACalls Tryd.prog 9 [.d (.str s)] [] (fun av L => ∃ pk bs, ShapeO a pk bs L ∧ av = .tup [.agg (actC a pk bs), .d (.int .i64 0)]) :=
  parse_rokO s hs _ (fun b k hp hb => by
    rw [h] at k
    cases k
    exact ⟨_, _, .data hb hp, rfl⟩) (fun b cap k hp h1 h2 => by
    rw [h] at k
    cases k
    exact ⟨_, _, .obs cap hp h1 h2, rfl⟩) (fun b k hb hn => by
    rw [h] at k
    cases k
    exact ⟨_, _, .row hb, rfl⟩) (fun k => by rw [h] at k; cases k)
def ppSt (l : List Ask) (i : Nat) : AF × List AB := ([(0, .d (.sl 29 (asksD l))), (3, .d (.int .i64 (i : Int)))], [])
set_option maxHeartbeats 2000000 in
theorem scriptParses_ok (l : List Ask) (hl : few l) (ho : ∀ q ∈ l, q.okT) : ACalls Tryd.prog 3 [.d (.sl 29 (asksD l))] [] (fun av L => av = .d (.bool true) ∧ L = []) := by
  have n0 := num_ok 0
  have n1 := num_ok 1
  have hcl := asksD_length l
  unfold few at hl
  (refine acalls_go ttOk zOk foOk Tryd.func3 rfl Tryd.ntmps3 rfl false rfl ?_); (conv => whnf)
  refine rdz ?_; repeat' ((with_reducible apply tw) <;> intro _)
  refine loop_go ttOk zOk foOk (σ := Nat) (ppSt l) (fun i => i ≤ 20) (fun i => 20 - i) [0, 3] ?_ ?_
  · conv => whnf
    exact ⟨0, rfl, rfl, Nat.zero_le _⟩
  · intro i hi2
    conv => whnf
    refine rdz ?_; repeat' ((with_reducible apply tw) <;> intro _)
    · rename_i h1 h2
      replace h1 : (i : Int) < ((asksD l).length : Nat) := h1
      replace h2 : (i : Int) < 20 := h2
      refine Exists.elim (⟨_, List.getElem?_eq_getElem (by omega)⟩ : ∃ q, l[i]? = some q) fun q hq => ?_
      have hidx : (asksD l)[((i : Nat) : Int).toNat]? = some q.cs := by rw [Int.toNat_natCast]; simp [asksD, hq]
      have hok := ho q (List.mem_of_getElem? hq)
      refine ⟨by omega, q.cs, hidx, ?_⟩
      conv => whnf
      refine rdz ?_; repeat' ((with_reducible apply tw) <;> intro _)
      refine (heavy_ok q hok).mono ?_
      rintro _ _ ⟨⟨b, rfl, hb⟩, rfl⟩
      cases b with
      | true =>
        conv => whnf
        refine rdz ?_; repeat' ((with_reducible apply tw) <;> intro _)
        exact ⟨rfl, rfl⟩
      | false =>
        have hsm := (hb rfl).1
        have hsz := (hb rfl).2
        have hsl : (q.s.data.toList).length ≤ 1000000 := Nat.le_trans (show q.s.size ≤ 2000 from hsz) (by decide)
        have h28 := parse28_ok q.s.data.toList hsl
        conv => whnf
        refine rdz ?_; repeat' ((with_reducible apply tw) <;> intro _)
        refine ⟨by omega, q.cs, hidx, ?_⟩
        conv => whnf
        refine rdz ?_; repeat' ((with_reducible apply tw) <;> intro _)
        cases hs : parseS q.s.data.toList with
        | none =>
          rw [hs] at h28
          have hno := parse_up (a := zeroS 0) (z := 1) ((parse_no (s := q.s) (Nat.le_trans hsz (by decide)) hs).mono (by rintro av L ⟨rfl, rfl⟩; exact ⟨_, _, .data rfl rfl, rfl⟩))
          refine hno.mono ?_
          rintro _ _ ⟨pk, bs, hsh, rfl⟩
          have hsame := sameR (b := zeroS 0) (pk3 := .nils) (bs3 := .nils) rfl zero_sized hsh (nwP0 rfl) (nwB0 rfl)
          rw [sameB_self rfl] at hsame
          cases hsh
          · conv => whnf
            refine rdz ?_; repeat' ((with_reducible apply tw) <;> intro _)
            refine ⟨by omega, q.cs, hidx, ?_⟩
            conv => whnf
            refine rdz ?_; repeat' ((with_reducible apply tw) <;> intro _)
            refine h28.mono ?_
            rintro _ _ ⟨rfl, rfl⟩
            conv => whnf
            refine rdz ?_; repeat' ((with_reducible apply tw) <;> intro _)
            (refine (n1).mono ?_; rintro _ _ ⟨rfl, rfl⟩; (conv => whnf))
            refine rdz ?_; repeat' ((with_reducible apply tw) <;> intro _)
            (refine (n1).mono ?_; rintro _ _ ⟨rfl, rfl⟩; (conv => whnf))
            refine rdz ?_; repeat' ((with_reducible apply tw) <;> intro _)
            (refine (hsame).mono ?_; rintro _ _ ⟨rfl, rfl⟩; (conv => whnf))
            refine rdz ?_; repeat' ((with_reducible apply tw) <;> intro _)
            (refine Or.inr ?_; (conv => whnf))
            refine (spoilN_ok [] (Nat.zero_le _)).mono ?_
            rintro _ _ ⟨rfl, rfl⟩
            conv => whnf
            refine rdz ?_; repeat' ((with_reducible apply tw) <;> intro _)
            (refine Or.inr ?_; (conv => whnf))
            refine spoilB_row.mono ?_
            rintro _ _ ⟨rfl, rfl⟩
            conv => whnf
            refine rdz ?_; repeat' ((with_reducible apply tw) <;> intro _)
            exact ⟨i + 1, rfl, rfl, by omega, by omega⟩
          all_goals
            rename_i cap hp1 hc1 hc2
            conv => whnf
            refine rdz ?_; repeat' ((with_reducible apply tw) <;> intro _)
            refine ⟨by omega, q.cs, hidx, ?_⟩
            conv => whnf
            refine rdz ?_; repeat' ((with_reducible apply tw) <;> intro _)
            refine h28.mono ?_
            rintro _ _ ⟨rfl, rfl⟩
            conv => whnf
            refine rdz ?_; repeat' ((with_reducible apply tw) <;> intro _)
            (refine (n1).mono ?_; rintro _ _ ⟨rfl, rfl⟩; (conv => whnf))
            refine rdz ?_; repeat' ((with_reducible apply tw) <;> intro _)
            (refine (n1).mono ?_; rintro _ _ ⟨rfl, rfl⟩; (conv => whnf))
            refine rdz ?_; repeat' ((with_reducible apply tw) <;> intro _)
            have hsame2 := sameR (a := zeroS 0) (b := zeroS 0) (pk3 := .nils) (bs3 := .nils) rfl zero_sized (.obs2 cap hp1 hc1 hc2) (nwP0 rfl) (nwB0 rfl)
            rw [sameB_self rfl] at hsame2
            (refine (hsame2).mono ?_; rintro _ _ ⟨rfl, rfl⟩; (conv => whnf))
            refine rdz ?_; repeat' ((with_reducible apply tw) <;> intro _)
            (refine Or.inr ?_; (conv => whnf))
            refine (spoilN_ok [] (Nat.zero_le _)).mono ?_
            rintro _ _ ⟨rfl, rfl⟩
            conv => whnf
            refine rdz ?_; repeat' ((with_reducible apply tw) <;> intro _)
            (refine Or.inr ?_; (conv => whnf))
            refine (spoilBO (zeroS 0).bytes cap (Nat.zero_le _) hc1).mono ?_
            rintro _ _ ⟨rfl, o, rfl⟩
            conv => whnf
            refine rdz ?_; repeat' ((with_reducible apply tw) <;> intro _)
            exact ⟨i + 1, rfl, rfl, by omega, by omega⟩
        | some a =>
          rw [hs] at h28
          have hpf := parse_fine hs (Nat.le_trans (show q.s.size ≤ 2000 from hsz) (by decide))
          refine (parse_up (parse_yesO (Nat.le_trans hsz (by decide)) hs)).mono ?_
          rintro _ _ ⟨pk, bs, hsh, rfl⟩
          have hsame : ∀ {pk3 bs3 : DV}, NW (.d pk3) (.d (.sl 1 (nums a.picks))) → NW (.d bs3) (.d (.sl 1 (u8s a.bytes))) → _ := fun {pk3 bs3} h5 h6 => sameR (b := a) (pk3 := pk3) (bs3 := bs3) hpf.2.1 hpf.1.sized hsh h5 h6
          rw [sameB_self hpf.2.1] at hsame
          cases hsh
          · have hpl := hpf.1.picks
            conv => whnf
            refine rdz ?_; repeat' ((with_reducible apply tw) <;> intro _)
            refine ⟨by omega, q.cs, hidx, ?_⟩
            conv => whnf
            refine rdz ?_; repeat' ((with_reducible apply tw) <;> intro _)
            refine h28.mono ?_
            rintro _ _ ⟨⟨pk3, bs3, h5, h6, rfl⟩, rfl⟩
            conv => whnf
            refine rdz ?_; repeat' ((with_reducible apply tw) <;> intro _)
            (refine (n0).mono ?_; rintro _ _ ⟨rfl, rfl⟩; (conv => whnf))
            refine rdz ?_; repeat' ((with_reducible apply tw) <;> intro _)
            (refine (hsame h5 h6).mono ?_; rintro _ _ ⟨rfl, rfl⟩; (conv => whnf))
            refine rdz ?_; repeat' ((with_reducible apply tw) <;> intro _)
            (refine Or.inr ?_; (conv => whnf))
            refine (spoilN_ok a.picks (Nat.le_trans hpl (by decide))).mono ?_
            rintro _ _ ⟨rfl, rfl⟩
            conv => whnf
            refine rdz ?_; repeat' ((with_reducible apply tw) <;> intro _)
            (refine Or.inr ?_; (conv => whnf))
            refine spoilB_row.mono ?_
            rintro _ _ ⟨rfl, rfl⟩
            conv => whnf
            refine rdz ?_; repeat' ((with_reducible apply tw) <;> intro _)
            exact ⟨i + 1, rfl, rfl, by omega, by omega⟩
          all_goals
            rename_i cap hp1 hc1 hc2
            have hbl := hpf.1.bytes
            conv => whnf
            refine rdz ?_; repeat' ((with_reducible apply tw) <;> intro _)
            refine ⟨by omega, q.cs, hidx, ?_⟩
            conv => whnf
            refine rdz ?_; repeat' ((with_reducible apply tw) <;> intro _)
            refine h28.mono ?_
            rintro _ _ ⟨⟨pk3, bs3, h5, h6, rfl⟩, rfl⟩
            conv => whnf
            refine rdz ?_; repeat' ((with_reducible apply tw) <;> intro _)
            (refine (n0).mono ?_; rintro _ _ ⟨rfl, rfl⟩; (conv => whnf))
            refine rdz ?_; repeat' ((with_reducible apply tw) <;> intro _)
            have hsame2 := sameR (b := a) (pk3 := pk3) (bs3 := bs3) hpf.2.1 hpf.1.sized (.obs2 cap hp1 hc1 hc2) h5 h6
            rw [sameB_self hpf.2.1] at hsame2
            (refine (hsame2).mono ?_; rintro _ _ ⟨rfl, rfl⟩; (conv => whnf))
            refine rdz ?_; repeat' ((with_reducible apply tw) <;> intro _)
            (refine Or.inr ?_; (conv => whnf))
            refine (spoilN_ok [] (Nat.zero_le _)).mono ?_
            rintro _ _ ⟨rfl, rfl⟩
            conv => whnf
            refine rdz ?_; repeat' ((with_reducible apply tw) <;> intro _)
            (refine Or.inr ?_; (conv => whnf))
            refine (spoilBO a.bytes cap (Nat.le_trans hbl (by decide)) hc1).mono ?_
            rintro _ _ ⟨rfl, o, rfl⟩
            conv => whnf
            refine rdz ?_; repeat' ((with_reducible apply tw) <;> intro _)
            exact ⟨i + 1, rfl, rfl, by omega, by omega⟩
    · (refine (wakes_ok).mono ?_; rintro _ _ ⟨rfl, rfl⟩; (conv => whnf))
      refine rdz ?_; repeat' ((with_reducible apply tw) <;> intro _)
      exact ⟨rfl, rfl⟩
    · (refine (wakes_ok).mono ?_; rintro _ _ ⟨rfl, rfl⟩; (conv => whnf))
      refine rdz ?_; repeat' ((with_reducible apply tw) <;> intro _)
      exact ⟨rfl, rfl⟩
end Go.Proofs.YtkaepgfmpljlmaaDoor
namespace Go.Proofs.YtkaepgfmpljlmaaDoor
open Go.Ab Go.RowKit Go.ChangeShapes Go.WideShapes Go.ChangeAt
variable {H : Type} {enc : TypeId × Value → H}
theorem wrap_and_shaped {a : Assume} {C : Checked} {os : Os} {f : FuncId} {fn : Func} {s : ChangeSpec} {conds : List PathCond} {apart fresh handsOn again : Bool} {X : World → Array Value → Prop}
    (hX : ∀ (w w' : World) (args : Array Value), w.heap = w'.heap → X w args → X w' args)
    (own : ownKnob C.prog.godebug = none) (started : os.Started) (noInit : C.prog.inits.idxOf? f = none) (hfn : C.prog.funcs[f]? = some fn)
    (witness : ∃ (w : World) (tape : Tape) (i : Input), w.os = os ∧ (w.forCall tape i).Shaped C.prog ∧ i.vars = [] ∧ Input.okWide C.prog (w.forCall tape i) .any w.heap.size f i ∧
      ((s.pre enc C.prog fn conds apart (w.forCall tape i).memory i.args ∧ X (w.forCall tape i).memory i.args) ∧ sizedMet enc C.prog fn (OpenSpec.ofChange s) apart (w.forCall tape i).memory i.args) ∧ a.holds C.prog (lone (Frame.enter C.prog f i.args .normal) [] (w.forCall tape i)))
    (contract : ∀ (W : World) (base : Nat) (args : Array Value) (ds gs : List (DataW H)) (before : List MemPlace),
      (∀ (j : Nat) t v, fn.params[j]? = some t → args[j]? = some v → Value.okWide C.prog W .any base t v) →
      DataW.Whole enc C.prog fn.params.toList s.vars apart W args.toList ds gs before →
      (DataW.weightsEach C.prog (fn.params.toList ++ s.plain.varTypes C.prog) (ds ++ gs)).all (· ≤ reachBytes) = true → X W args → W.ShapedOpen C.prog →
      Calls C.prog f args W fun e W' => ∃ v, e = .returned v ∧ s.post enc C.prog fn apart fresh handsOn again W args v W') :
    ReturnsInHanded a C os f .any (fun w args => (s.pre enc C.prog fn conds apart w args ∧ X w args) ∧ sizedMet enc C.prog fn (OpenSpec.ofChange s) apart w args) (s.post enc C.prog fn apart fresh handsOn again) := by
  refine returnsInHanded_of_calls own started noInit witness ?_
  intro w tape i _ hsh _ hok hpre hholds
  obtain ⟨_, _, _, fn', hfn', _, _, _, _, hval⟩ := hok
  have e : fn' = fn := Option.some.inj (hfn'.symm.trans hfn)
  subst e
  obtain ⟨⟨⟨ds, gs, before, hw, hc⟩, hx⟩, hz⟩ := hpre
  have hw' := DataW.Whole.of_heap (w' := w.forCall tape i) (by rfl) hw
  refine (contract (w.forCall tape i) w.heap.size i.args ds gs before hval hw' (hz.weights hw) (hX _ _ _ (by rfl) hx) hsh).mono fun e W' ⟨v, he, hp⟩ => ?_
  subst he
  exact ChangeSpec.post_blind hp
theorem iface_of_reads {P : Program} {w : World} {n : String} {d : DataW Unit} {g : Nat} {t : TypeId} {ms : Array (String × TypeId)} (h : Lib.VarReads P w n d) (hg : P.globalNamed n = some g) (ht : (P.globals[g]?).map (·.type) = some t) (hu : P.underlying t = some (.interface ms)) :
    ∃ ev, w.cell? ⟨g, 0, none⟩ = some ev ∧ (ev = .nilIface ∨ ∃ te pe, ev = .iface te pe) := by
  obtain ⟨g', t', cs, fuel, p, h1, h2, h3, h4⟩ := h
  obtain rfl := Option.some.inj (hg.symm.trans h1)
  obtain rfl := Option.some.inj (ht.symm.trans h2)
  have key : ∃ ev, cs.toList = [ev] ∧ (ev = .nilIface ∨ ∃ te pe, ev = .iface te pe) := by
    cases fuel with
    | zero => cases h4
    | succ fuel =>
      generalize cs.toList = l at h4
      rcases l with _ | ⟨x, _ | ⟨y, r⟩⟩
      · simp only [DataW.trod, hu] at h4
        cases h4
      · cases x <;> first | exact ⟨_, rfl, .inl rfl⟩ | exact ⟨_, rfl, .inr ⟨_, _, rfl⟩⟩ | (simp only [DataW.trod, hu] at h4; cases h4)
      · cases x <;> (simp only [DataW.trod, hu] at h4; cases h4)
  obtain ⟨ev, e, hev⟩ := key
  refine ⟨ev, ?_, hev⟩
  have := World.var?_cell hg h3 0
  rw [this]
  have : cs = #[ev] := by rw [← Array.toArray_toList (xs := cs), e]
  rw [this]
  rfl
theorem tab_of_reads {P : Program} {W : World} {name : String} {k : IntKind} {zs : List Int} {g : Nat} {t e : TypeId} {n : Nat}
    (hg : P.globalNamed name = some g) (hty : (P.globals[g]?).map (·.type) = some t) (ht : P.underlying t = some (.array n e)) (he : P.underlying e = some (.int k)) (hce : P.cellsOf e = 1) (hct : P.cellsOf t = n)
    (h : Lib.VarReads P W name (Lib.tabData k zs)) : Lib.TabIs P W name k zs := by
  obtain ⟨g', t', cs, fuel, p, hg', ht', hvar, hd⟩ := h
  obtain rfl := Option.some.inj (hg.symm.trans hg')
  obtain rfl := Option.some.inj (hty.symm.trans ht')
  unfold Lib.TabIs
  rw [hvar, ← Lib.cells_of_tab ht he hce hct hd]
theorem gDb : Tryd.prog.globalNamed "math/bits.deBruijn64tab" = some 7 := by kernel_rfl
theorem gSyn : Tryd.prog.globalNamed "strconv.ErrSyntax" = some 4 := by kernel_rfl
theorem gRan : Tryd.prog.globalNamed "strconv.ErrRange" = some 5 := by kernel_rfl
def laidL : List (String × DataW Unit) := Rows.scriptBytesRow.laid
theorem laid_plain : (laidL.all fun x => x.2.handleName?.isNone) = true := by kernel_rfl
theorem gs_of {W : World} (hL : laidMetH Tryd.prog laidL W) (hsh : W.ShapedOpen Tryd.prog) : GS W ∧ ∀ b, gblk b → b < W.heap.size := by
  rw [MakeChecks.laidMetH_plain _ _ _ laid_plain] at hL
  have r3 := Lib.laidMet.reads hL (n := "internal/strconv.uint64pow10") (d := Rows.laid_internal_strconv_uint64pow10) (.tail _ (.tail _ (.head _)))
  have r4 := Lib.laidMet.reads hL (n := "strconv.ErrSyntax") (d := Rows.laid_strconv_ErrSyntax) (.tail _ (.tail _ (.tail _ (.tail _ (.tail _ (.head _))))))
  have r5 := Lib.laidMet.reads hL (n := "strconv.ErrRange") (d := Rows.laid_strconv_ErrRange) (.tail _ (.tail _ (.tail _ (.tail _ (.head _)))))
  have r7 := Lib.laidMet.reads hL (n := "math/bits.deBruijn64tab") (d := Rows.laid_math_bits_deBruijn64tab) (.tail _ (.head _))
  refine ⟨⟨?_, ?_, ?_, ?_⟩, fun b hb => ?_⟩
  · exact cell_of_shapedOpen_int (P := Tryd.prog) (g := 0) (t := 3) (zero := #[.int .i64 0]) hsh (of_decide_eq_true (by kernel_rfl)) (by kernel_rfl) rfl (by kernel_rfl) (by kernel_rfl) Tryd.underlying3
  · exact tab_of_reads (g := 3) (t := 144) (e := 105) (n := 20) gTab (by kernel_rfl) (by kernel_rfl) (by kernel_rfl) (by kernel_rfl) (by kernel_rfl) r3
  · exact iface_of_reads r4 gSyn (t := 98) (by kernel_rfl) Tryd.underlying98
  · exact iface_of_reads r5 gRan (t := 98) (by kernel_rfl) Tryd.underlying98
  · obtain ⟨g', t', cs, fuel, p, h1, _, h3, _⟩ := r7
    obtain rfl := Option.some.inj (gDb.symm.trans h1)
    cases hh : W.heap[7]? with
    | none => simp [World.var?, gDb, hh] at h3
    | some o =>
      have := (Array.getElem?_eq_some_iff.1 hh).1
      have hb : b < 8 := hb
      omega
end Go.Proofs.YtkaepgfmpljlmaaDoor
/- ScriptParses: every line of a light ask is read as the page reads it, or is none as the page says; and what was told is the caller's own -/
namespace Go.Proofs.YtkaepgfmpljlmaaDoor
open Go.Ab Go.RowKit Go.ChangeShapes Go.WideShapes Go.ChangeAt
theorem okWide_slice {P : Program} {W : World} {base : Nat} {t e : TypeId} {v : Value} (hu : P.underlying t = some (.slice e)) (hv : Value.okWide P W .any base t v) : v.oneCell' = true := by
  cases v <;> simp_all [Value.okWide, Cell.okWide, Cell.ok, Value.oneCell']
theorem own : ownKnob Tryd.prog.godebug = none := by kernel_rfl
theorem laidOut : laidOutB Tryd.prog = true := by kernel_rfl
set_option maxRecDepth 100000 in
theorem scriptParses_lifted (os : Os) (started : os.Started) (H : Type) (enc : TypeId × Value → H) :
    ReturnsInHanded {} Tryd.checked os 3 .any (fun w args => (Rows.scriptParsesSpec.pre enc Tryd.prog Tryd.f3 [] false w args ∧ laidMetH Tryd.prog laidL w) ∧ sizedMet enc Tryd.prog Tryd.f3 (OpenSpec.ofChange Rows.scriptParsesSpec) false w args)
      (Rows.scriptParsesSpec.post enc Tryd.prog Tryd.f3 false true false false) := by
  refine wrap_and_shaped (C := Tryd.checked) (X := fun w _ => laidMetH Tryd.prog laidL w) (fun _ _ _ hh h => h.of_heap hh) own started (by kernel_rfl) Tryd.func3
    (ChangeSpec.witness_shaped (enc := enc) (C := Tryd.checked) (os := os) (X := fun w _ => laidMetH Tryd.prog laidL w) false (World.laidAll Tryd.prog os laidL) #[.slice none 0 0] 8 (World.laidAll_os _ _ _)
      (World.shaped_of_ZipB (by kernel_rfl) (by kernel_rfl)) (by kernel_rfl) (by kernel_rfl) (by kernel_rfl)
      (by rw [MakeChecks.laidMetH_plain _ _ _ laid_plain]; exact laidMet_laidAll _ (by kernel_rfl) (by kernel_rfl))) ?_
  intro W base args ds gs before hval hW hsz hL hsh
  exact law_contract ttOk (f := Tryd.f3) (tb := 4) (t := 22) rfl rfl Tryd.underlying4 rfl (fun _ _ => rfl) laidOut (by kernel_rfl) (of_decide_eq_true (by kernel_rfl)) 9 (by kernel_rfl) arg1
    (fun W base v ds h1 h2 => arg1_ok (okWide_slice Tryd.underlying22 h1) h2)
    (fun ds hd => by
      obtain ⟨l, hl, fl, ho⟩ := rd_asks hd
      rw [hl]
      exact scriptParses_ok l fl ho) hval hW hsz (gs_of hL hsh)
theorem scriptParses_said : Rows.ScriptParsesSaid :=
  OpenClaim.holds_of_wide 3 Tryd.f3 rfl rfl rfl rfl rfl rfl rfl ⟨rfl, rfl, rfl, rfl, rfl⟩ rfl rfl rfl rfl rfl (by kernel_rfl) Tryd.func3 (by kernel_rfl)
    (of_decide_eq_true (by kernel_rfl)) (by unfold Func.isWrapper; first | (rw [if_pos (by decide +kernel)]; kernel_rfl) | (rw [if_neg (by decide +kernel)]; exact ⟨rfl, rfl⟩))
    (fun os started H enc _ => scriptParses_lifted os started H enc)
theorem scriptParsesCard_holds : Rows.ScriptParsesCardSaid :=
  Claim7.holds_tied_plain_at .later [] [.data, .data, .data, .data, .sentinel, .sentinel, .pinned] true (true, "638c714ce6cbec5477be3a1e74b477be8c0c818e704eb2b60715e3e7b56e668c") true scriptParses_said (fun _ h => by cases h) (by kernel_rfl) (fun _ h => by cases h) scriptParses_row_tie rfl ⟨rfl, rfl⟩ (by kernel_rfl) rfl
    (fun f fn hf hfn => by
      obtain rfl : f = 3 := Option.some.inj ((show Tryd.prog.funcNamed "drover/droverlaw28.ScriptParses" = some 3 by kernel_rfl).symm.trans hf) |>.symm
      obtain rfl : fn = Tryd.f3 := (Option.some.inj (Tryd.func3.symm.trans hfn)).symm
      exact ⟨by kernel_rfl, fun j t ht => by
        rw [Tryd.params3] at ht
        have hm : t ∈ [22] := by simpa using Array.mem_of_getElem? ht
        have hall : ([22].all fun u => !Tryd.prog.wantsStandIn u) = true := by kernel_rfl
        exact (show Tryd.prog.wantsStandIn t = false by simpa using List.all_eq_true.1 hall t hm)⟩)
    (by kernel_rfl)
#print axioms scriptParsesCard_holds
end Go.Proofs.YtkaepgfmpljlmaaDoor
