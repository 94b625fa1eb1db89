/- What is sealed. -/
import Derived.Test.YtblelojdboefjaaDoorCa
set_option maxRecDepth 100000
set_option linter.unusedVariables false
set_option linter.unusedSimpArgs false
namespace Go.Proofs.YtblelojdboefjaaDoor.R
open Go

theorem be4_map (b : List UInt8) (k : Nat) : b.map bpv ++ [[.i .u8 ((UInt8.ofNat (k / 16777216)).toNat : Int)], [.i .u8 ((UInt8.ofNat (k / 65536)).toNat : Int)], [.i .u8 ((UInt8.ofNat (k / 256)).toNat : Int)], [.i .u8 ((UInt8.ofNat k).toNat : Int)]] = (b ++ be4 k).map bpv := by
  simp [be4, bpv]
theorem bytes_map {l : List UInt8} : bytes? (l.map bpv) = some l := by
  induction l with
  | nil => rfl
  | cons x l ih =>
    simp only [List.map_cons, bpv, bytes?] at ih ⊢
    rw [ih]
    simp
theorem cloneBytes_ok (n : Nat) (hn : Big + 1 ≤ n) (f : Bool) (b : List UInt8) (h : b.length ≤ LIM) : pcall env n 64 [.c .one [.sh f (.s 1 (b.map bpv))]] [] = some ⟨.c .one [.ow false 1 (b.map bpv)], []⟩ := by
  obtain ⟨m, rfl⟩ := ex_pred hn
  rw [pcall_orc (g := cloneOrc 1 1 true) rfl]
  simp only [cloneOrc, go_sem]
  rw [if_pos (by omega)]
theorem sealed_ok (n : Nat) (hn : Big + 2 ≤ n) (b : List UInt8) (hb : b.length ≤ 4398046511104) : pcall env n 33 [.c .one [.sh true (.s 1 ((b).map bpv))]] [] = some ⟨.c .one [.ow false 1 ((b ++ be4 (crcN b)).map bpv)], []⟩ := by
  refine walk (fn := Tryd.f33) (d := 1) hn rfl rfl rfl (Nat.le_of_ble_eq_true rfl) fun m hd => ?_
  unfold Tryd.f33
  have hc := crcI_ok m (hd (by decide)) b hb
  have hlt := crcN_lt b
  have e1 : shiftOp .shr .i64 (crcN b : Int) 24 = some (.i .i64 ((crcN b / 16777216 : Nat) : Int)) := shr64 (s := 24) (by decide) (by omega)
  have e2 : shiftOp .shr .i64 (crcN b : Int) 16 = some (.i .i64 ((crcN b / 65536 : Nat) : Int)) := shr64 (s := 16) (by decide) (by omega)
  have e3 : shiftOp .shr .i64 (crcN b : Int) 8 = some (.i .i64 ((crcN b / 256 : Nat) : Int)) := shr64 (s := 8) (by decide) (by omega)
  have hlim : LIM = 70368744177664 := rfl
  have g1 := cloneBytes_ok m (hd (by decide)) true b (by omega)
  have g2 : b.length + 4 ≤ LIM := by omega
  simp only [go_sem, Nat.reduceLT, Nat.reduceAdd, Nat.reduceSub, Nat.reduceEqDiff, Nat.reduceLeDiff, Int.reduceEq, Int.reduceBEq, Int.reduceBNe, Int.reduceNeg, UInt8.reduceToNat, Nat.reduceBEq, hc, e1, e2, e3, u8w, be4_map, g1, g2]
end Go.Proofs.YtblelojdboefjaaDoor.R
