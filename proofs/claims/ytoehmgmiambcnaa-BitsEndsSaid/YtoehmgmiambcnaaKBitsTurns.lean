/-
  The law BitsTurns: what it answers.
-/
import Derived.Test.YtoehmgmiambcnaaKRef01
import Derived.Test.YtoehmgmiambcnaaRow
set_option linter.unusedSimpArgs false
set_option linter.unusedVariables false
namespace Go.Proofs.Ytoehmgmiambcnaa
open Go Go.Ev

theorem BitsTurns_spec (x : BitVec 32) (n : Int) (hn : -9223372036854775808 ≤ n ∧ n ≤ 9223372036854775807) (s : Sl) (ts : List Int) {R : Value → Heap → Prop} {h : Heap} (hr : Rd 1 h s (ts.map (.int .i64)))
    (hts : ∀ n ∈ ts, -9223372036854775808 ≤ n ∧ n ≤ 9223372036854775807) (H : ∀ h', Ext h h' → R (.bool true) h') : HC Try.prog F.law01_BitsTurns #[wv x, .int .i64 n, .slice s.a s.n s.c] R h := by
  refine law01_BitsTurns.calls (turns2 := s) ?_
  unfold law01_BitsTurns.body
  have hl : s.n = ts.length := by have := hr.len; simpa using this
  by_cases hbig : (s.n : Int) > 1000
  · rw [if_pos (by simpa using hbig)]
    exact awake_spec fun h' hx => ⟨_, rfl, H h' hx⟩
  · rw [if_neg (by simpa using hbig)]
    refine LentInts_spec s _ hr (by intro v hv; simp at hv; obtain ⟨_, _, rfl⟩ := hv; rfl) (by simp; omega) ?_
    intro s1 h1 hlent hext hblk
    refine ⟨_, rfl, ?_⟩
    refine Turn_spec x n hn ⟨_, rfl, ?_⟩
    refine refTurn_spec x n hn ⟨_, rfl, ?_⟩
    dsimp only
    rw [if_pos (by simp)]
    refine Mix_spec x s1 ts hlent.rd (by omega) hts ⟨_, rfl, ?_⟩
    refine refMix_spec x s ts (hr.ext hext) (by omega) hts ⟨_, rfl, ?_⟩
    dsimp only
    rw [if_pos (by simp)]
    refine Shift_spec x n ⟨_, rfl, ?_⟩
    refine refShift_spec x n hn.2 ⟨_, rfl, ?_⟩
    dsimp only
    rw [if_pos (by simp)]
    refine KeptInts_spec s1 s ts hlent (hr.ext hext) (by omega) ⟨_, rfl, ?_⟩
    dsimp only
    rw [if_pos rfl]
    exact awake_spec fun h' hx => ⟨_, rfl, H h' (hext.trans hx)⟩

theorem BitsTurns_walk {h : Heap} (a0 : Int) (w0 : (Lit.int .u32 a0).wf = true) (a1 : Int) (w1 : (Lit.int .i64 a1).wf = true) (a : Option Addr) (len cap : Nat) (zs : List Int) (w2 : RowIn .i64 8 h a len cap zs) :
    HC Try.prog F.law01_BitsTurns #[.int .u32 a0, .int .i64 a1, .slice a len cap] (fun v h' => v = .bool true ∧ Ext h h') h := by
  have b0 := wf_u32 w0
  obtain ⟨x, rfl⟩ := ltU32 b0.1 (by omega)
  exact BitsTurns_spec x a1 (wf_i64 w1) ⟨a, len, cap⟩ zs w2.rd w2.wf fun h' hx => ⟨rfl, hx⟩
end Go.Proofs.Ytoehmgmiambcnaa
