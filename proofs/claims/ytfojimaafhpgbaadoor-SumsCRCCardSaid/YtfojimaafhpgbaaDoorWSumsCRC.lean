/- The walk of the law SumsCRC. -/
import Derived.Test.YtfojimaafhpgbaaDoorSumsLaw
namespace Go.Proofs.YtfojimaafhpgbaaDoor.sumsCRC
open Go.RowKit

set_option maxHeartbeats 1000000 in
theorem walk_out (s : ByteArray) (w : World) (h : (600 : Int) < (s.size : Int)) :
    Calls Tryd.prog 7 #[.string s] w fun e w' => e = .returned (.bool true) ∧ w = w' := by
  go_enter Tryd.func7, Tryd.ntmps7
  go_wp2_with (go_at_call 33; refine (check_walk _).mono ?_; rintro e w' ⟨rfl, rfl⟩)
  go_ret
  exact ⟨rfl, rfl⟩

set_option maxRecDepth 100000 in
set_option maxHeartbeats 2000000 in
theorem walk_in (s x : ByteArray) (ev : Value) (c : Int) (w : World) (h : ¬ (600 : Int) < (s.size : Int))
    (hO : ∀ W, Below w.heap.size w W → Calls Tryd.prog 40 #[.string s] W fun e w' => e = .returned (.tuple #[.string x, ev]) ∧ Below W.heap.size W w')
    (hR : ∀ W, Below w.heap.size w W → Calls Tryd.prog 41 #[.string s] W fun e w' => e = .returned (.tuple #[.string x, .int .i64 c]) ∧ Below W.heap.size W w')
    (hC : ∀ W, Below w.heap.size w W → Calls Tryd.prog 31 #[ev, .int .i64 c] W fun e w' => e = .returned (.bool true) ∧ Below W.heap.size W w') :
    Calls Tryd.prog 7 #[.string s] w fun e w' => e = .returned (.bool true) ∧ Below w.heap.size w w' := by
  have hsz : s.size ≤ 600 := by omega
  have hm : s.size ≤ maxLen := by unfold maxLen; omega
  have hse := Lib.hid (seal_walk s w (by omega))
  have hc := Lib.hid (fun W => crc_walk s W hm)
  have hrc := Lib.hid (fun W => rcrc_walk s W hm)
  have hh := Lib.hid (fun W => hash_walk s W hm)
  have hrh := Lib.hid (fun W => rhash_walk s W hm)
  have hrf := Lib.hid (fun W => rfour_walk (Sm.crc (Sm.nats s)) W (crc_lt s))
  have hop := fun (W : World) => open_ok (s ++ fourS (Sm.crc (Sm.nats s))) W (by simp [fourS_size]) (by simp [fourS_size]; omega) (by rw [bodyOf_append (fourS_size _), tailOf_append (fourS_size _)])
  rw [bodyOf_append (fourS_size _)] at hop
  have Hop := Lib.hid hop
  have HO := Lib.hid hO
  have HR := Lib.hid hR
  have HC := Lib.hid hC
  have hlt := crc_lt s
  have hht : Sm.hash (Sm.nats s) < 4294967296 := Sm.hashN_lt _ _
  clear hop hO hR hC hm
  have hf4 : (fourL (Sm.crc (Sm.nats s))).length ≤ 4 := Nat.le_refl 4
  have hse2 : Hid (Calls Tryd.prog 34 #[.string s] w fun e w' => e = .returned (.string (s ++ fourS (Sm.crc (Sm.nats s)))) ∧ Below w.heap.size w w') := hse
  have hrf2 : Hid (∀ W, Calls Tryd.prog 39 #[.int .i64 (Sm.crc (Sm.nats s) : Nat)] W fun e w' => e = .returned (.string (fourS (Sm.crc (Sm.nats s)))) ∧ Below W.heap.size W w') := hrf
  have hfs : (fourS (Sm.crc (Sm.nats s))).size ≤ 4 := Nat.le_refl 4
  clear hse hrf hf4
  generalize fourS (Sm.crc (Sm.nats s)) = f at hse2 hrf2 Hop hfs
  generalize Sm.crc (Sm.nats s) = cc at hc hrc hrf2 hlt
  generalize Sm.hash (Sm.nats s) = hv at hh hrh hht
  go_enter Tryd.func7, Tryd.ntmps7
  go_wp2_with fail
  refine (check_walk _).mono ?_
  rintro e w' ⟨rfl, rfl⟩
  go_wp2_with fail
  refine hse2.out.mono ?_
  rintro e w1 ⟨rfl, hb1⟩
  go_wp2_with fail
  refine (hc.out _).mono ?_
  rintro e w' ⟨rfl, rfl⟩
  go_wp2_with fail
  refine (hrc.out _).mono ?_
  rintro e w' ⟨rfl, rfl⟩
  go_wp2_with fail
  refine (hh.out _).mono ?_
  rintro e w' ⟨rfl, rfl⟩
  go_wp2_with fail
  refine (hrh.out _).mono ?_
  rintro e w' ⟨rfl, rfl⟩
  go_wp2_with fail
  refine (hrc.out _).mono ?_
  rintro e w' ⟨rfl, rfl⟩
  go_wp2_with fail
  refine (hrf2.out _).mono ?_
  rintro e w2 ⟨rfl, hb⟩
  have hb2 := hb1.trans (hb.mono hb1.size)
  clear hb hb1
  go_wp2_with fail
  refine (Hop.out _).mono ?_
  rintro e w3 ⟨rfl, hb⟩
  have hb3 := hb2.trans (hb.mono hb2.size)
  clear hb hb2
  go_wp2_with fail
  refine (HO.out _ hb3).mono ?_
  rintro e w4 ⟨rfl, hb⟩
  have hb4 := hb3.trans (hb.mono hb3.size)
  clear hb hb3
  go_wp2_with fail
  refine (HR.out _ hb4).mono ?_
  rintro e w5 ⟨rfl, hb⟩
  have hb5 := hb4.trans (hb.mono hb4.size)
  clear hb hb4
  go_wp2_with fail
  refine (HC.out _ hb5).mono ?_
  rintro e w6 ⟨rfl, hb⟩
  have hb6 := hb5.trans (hb.mono hb5.size)
  clear hb hb5
  go_wp2
  go_ret
  exact ⟨rfl, hb6⟩

theorem walk (s : ByteArray) (w : World) (_w0 : s.size ≤ maxLen) (hL : laidMetH Tryd.prog Rows.sumsCRCRow.laid w) :
    Calls Tryd.prog 7 #[.string s] w fun e w' => e = .returned (.bool true) ∧ Below w.heap.size w w' := by
  obtain ⟨E, hE⟩ := env_of_laid hL
  have eE : ∀ {W : World}, Below w.heap.size w W → ErrEnv W E := fun hW => hE.below hW (Nat.le_refl _)
  by_cases h : (600 : Int) < (s.size : Int)
  · exact (walk_out s w h).mono fun e w' ⟨he, hw⟩ => ⟨he, hw ▸ Below.refl _ _⟩
  have same : ∀ {f : Nat} {args : Array Value} {W : World} {v : Value}, (Calls Tryd.prog f args W fun e w' => e = .returned v ∧ W = w') → Calls Tryd.prog f args W fun e w' => e = .returned v ∧ Below W.heap.size W w' :=
    fun h => h.mono fun e w' ⟨he, hw⟩ => ⟨he, hw ▸ Below.refl _ _⟩
  by_cases h4 : s.size < 4
  · exact walk_in s ⟨#[]⟩ (errV (E 0)) 1 w h (fun W hW => open_short s W _ h4 (eE hW).c0) (fun W _ => same (ropen_short s W h4)) (fun W hW => coded_err E 0 (by decide) 1 W (eE hW))
  · by_cases hq : fourS (Sm.crc (Sm.nats (bodyOf s))) = tailOf s
    · exact walk_in s (bodyOf s) .nilIface 0 w h (fun W _ => open_ok s W (by omega) (by omega) hq) (fun W _ => ropen_ok s W (by omega) (by omega) hq) (fun W _ => same (coded_nil 0 W))
    · exact walk_in s ⟨#[]⟩ (errV (E 8)) 9 w h (fun W hW => open_sum s W _ (by omega) (by omega) (eE hW).c8 hq) (fun W _ => ropen_sum s W (by omega) (by omega) hq) (fun W hW => coded_err E 8 (by decide) 9 W (eE hW))
end Go.Proofs.YtfojimaafhpgbaaDoor.sumsCRC
