/- errors.As at the target *api.Fault, by its contracts: after the guide's worked text ToyasAs, turned to this program: a nil error; an error that is one; an error of errors.New's make, which is none. -/
import Derived.Test.YtabboioamdphmaaGreatDoorProg
import Derived.WalkKit
import Derived.LaidEql
import Derived.Stop.Asserts
import Derived.RowKitTokens
import Derived.Test.YtabboioamdphmaaGreatDoorSCarryHears02
import Derived.Test.YtabboioamdphmaaGreatDoorSCarryHears01
import Derived.Test.YtabboioamdphmaaGreatDoorSCarryHears07
namespace Go.Proofs.YtabboioamdphmaaGreatDoor
open Go.RowKit Go.Extern.Stop Go.Stop Go.Extern

/-! ### CLOSED FACTS ON THE MODEL's ENTRIES FOR internal/reflectlite, at this program's types: 25: *p.E · 27: **p.E · 23: error · 45: reflectlite's rtype · 1: how many package-level variables the dump has -/
theorem as_valueOf27 (t : Addr) (w : World) : (ReflectliteValue.unpack (.iface 118 (.pointer (some t)))).run Tryz.prog w
    = .ok (.agg #[.pointer (some ⟨17, 118, none⟩), .pointer (some ⟨w.heap.size, 0, none⟩), .int .u64 150]) (w.alloc (.cells #[.pointer (some t)] 118)) := by kernel_rfl
theorem as_type27 (a : Addr) (w : World) : (ReflectliteValue.methodAny (ReflectliteValue.valueError "reflectlite.Value.Type" 0) (fun t _ _ _ => ReflectliteType.toType t) #[.agg #[.pointer (some ⟨17, 118, none⟩), .pointer (some a), .int .u64 150]]).run Tryz.prog w
    = .ok (.iface 185 (.agg #[.pointer (some ⟨17, 118, none⟩)])) w := by kernel_rfl
theorem as_methodKind (h : Value) (w : World) : (Go.method 377 185 (.agg #[h]) "Kind").run Tryz.prog w = .ok (173, h) w := by kernel_rfl
theorem as_kind27 (w : World) : ((ReflectliteType.abiMethod fun t => (fun a : Nat => Value.int IntKind.u8 (a : Int)) <$> Rtype.kind t) #[.pointer (some ⟨17, 118, none⟩)]).run Tryz.prog w = .ok (.int .u8 22) w := by kernel_rfl
theorem as_kind25 (w : World) : ((ReflectliteType.abiMethod fun t => (fun a : Nat => Value.int IntKind.u8 (a : Int)) <$> Rtype.kind t) #[.pointer (some ⟨17, 116, none⟩)]).run Tryz.prog w = .ok (.int .u8 22) w := by kernel_rfl

/-! ### THE ENTRIES THAT READ OR WRITE MEMORY: laws with a premise on the cell (after Derived/Lib/ReflectliteSlice.lean's manner: each unfolding a lemma of its own, by rfl) -/
theorem rlm (z : Sem Value) (f : TypeId → Addr → Nat → Nat → Sem Value) (v : Value) :
    ReflectliteValue.method z f #[v] = (do match ← ReflectliteValue.parts v with | none => z | some (t, a, fl) => f t a fl (fl % 32)) := rfl
theorem as_parts27 (a : Addr) (w : World) : (ReflectliteValue.parts (.agg #[.pointer (some ⟨17, 118, none⟩), .pointer (some a), .int .u64 150])).run Tryz.prog w = .ok (some (118, a, 150)) w := by kernel_rfl
theorem as_isNil27 (a p : Addr) (W : World) (ha : W.cell? a = some (.pointer (some p))) :
    (ReflectliteValue.method (ReflectliteValue.valueError "reflectlite.Value.IsNil" 0) ReflectliteValue.isNil #[.agg #[.pointer (some ⟨17, 118, none⟩), .pointer (some a), .int .u64 150]]).run Tryz.prog W = .ok (.bool false) W := by
  rw [rlm]
  simp only [Sem.run_bind, as_parts27, Result.andThen]
  simp [ReflectliteValue.isNil, loadVar, isAgg, underlying, Tryz.underlying118, ha, Result.andThen]

theorem as_methodElem (h : Value) (w : World) : (Go.method 377 185 (.agg #[h]) "Elem").run Tryz.prog w = .ok (184, .agg #[h]) w := by kernel_rfl
theorem as_methodImplements (h : Value) (w : World) : (Go.method 377 185 (.agg #[h]) "Implements").run Tryz.prog w = .ok (185, .agg #[h]) w := by kernel_rfl
theorem as_methodAssignableTo (h : Value) (w : World) : (Go.method 377 185 (.agg #[h]) "AssignableTo").run Tryz.prog w = .ok (182, .agg #[h]) w := by kernel_rfl
theorem as_elem27 (w : World) : (ReflectliteType.method ReflectliteType.elem #[.agg #[.pointer (some ⟨17, 118, none⟩)]]).run Tryz.prog w = .ok (.iface 185 (.agg #[.pointer (some ⟨17, 116, none⟩)])) w := by kernel_rfl
theorem as_implements25 (w : World) : (ReflectliteType.relation "Implements" ReflectliteType.implements_ #[.agg #[.pointer (some ⟨17, 116, none⟩)], .iface 185 (.agg #[.pointer (some ⟨17, 31, none⟩)])]).run Tryz.prog w = .ok (.bool true) w := by kernel_rfl
theorem as_typeOf25 (v : Value) (w : World) : (ReflectliteType.typeOf #[.iface 116 v]).run Tryz.prog w = .ok (.iface 185 (.agg #[.pointer (some ⟨17, 116, none⟩)])) w := by kernel_rfl
theorem as_assignable25 (w : World) : (ReflectliteType.relation "AssignableTo" ReflectliteType.assignableTo #[.agg #[.pointer (some ⟨17, 116, none⟩)], .iface 185 (.agg #[.pointer (some ⟨17, 116, none⟩)])]).run Tryz.prog w = .ok (.bool true) w := by kernel_rfl
theorem as_valueOf25 (e : Addr) (w : World) : (ReflectliteValue.unpack (.iface 116 (.pointer (some e)))).run Tryz.prog w
    = .ok (.agg #[.pointer (some ⟨17, 116, none⟩), .pointer (some ⟨w.heap.size, 0, none⟩), .int .u64 150]) (w.alloc (.cells #[.pointer (some e)] 116)) := by kernel_rfl

theorem as_elemOf27 (w : World) : (Rtype.elem? 118).run Tryz.prog w = .ok (some 116) w := by kernel_rfl
theorem as_mk25 (p : Addr) (w : World) : (ReflectliteValue.mk 116 p ReflectliteValue.flagAddr).run Tryz.prog w = .ok (.agg #[.pointer (some ⟨17, 116, none⟩), .pointer (some p), .int .u64 406]) w := by kernel_rfl
theorem as_elemV27 (a p : Addr) (W : World) (ha : W.cell? a = some (.pointer (some p))) :
    (ReflectliteValue.method (ReflectliteValue.valueError "reflectlite.Value.Elem" 0) ReflectliteValue.elem #[.agg #[.pointer (some ⟨17, 118, none⟩), .pointer (some a), .int .u64 150]]).run Tryz.prog W
      = .ok (.agg #[.pointer (some ⟨17, 116, none⟩), .pointer (some p), .int .u64 406]) W := by
  rw [rlm]
  simp only [Sem.run_bind, as_parts27, Result.andThen]
  simp [ReflectliteValue.elem, loadVar, isAgg, underlying, Tryz.underlying118, ha, Result.andThen, as_elemOf27, as_mk25]
theorem rls (v x : Value) : ReflectliteValue.set #[v, x] = (do
    let (some (dst, a, fl), some (src, b, _)) := (← ReflectliteValue.parts v, ← ReflectliteValue.parts x)
      | unsupported (.noEntry "extern/(internal/reflectlite.Value).Set.zeroValue")
    if fl / ReflectliteValue.flagAddr % 2 == 0 then unsupported (.noEntry "extern/(internal/reflectlite.Value).Set.unaddressable")
    let val ← loadVar src b
    if ← Rtype.directlyAssignable dst src then storeVar dst a val
    else if ← Rtype.implements dst src then
      if (← Rtype.kind src) == 20 then
        match val with
        | .nilIface => unsupported (.noEntry "extern/reflectlite: a nil value of one interface type handed on as a value of another")
        | _ => storeVar dst a val
      else storeVar dst a (.iface src val)
    else panicString ("reflectlite.Set: value of type " ++ (← Rtype.spelt src) ++ " is not assignable to type " ++ (← Rtype.spelt dst))
    pure (.tuple #[])) := rfl
theorem as_parts25a (a : Addr) (w : World) : (ReflectliteValue.parts (.agg #[.pointer (some ⟨17, 116, none⟩), .pointer (some a), .int .u64 406])).run Tryz.prog w = .ok (some (116, a, 406)) w := by kernel_rfl
theorem as_parts25 (a : Addr) (w : World) : (ReflectliteValue.parts (.agg #[.pointer (some ⟨17, 116, none⟩), .pointer (some a), .int .u64 150])).run Tryz.prog w = .ok (some (116, a, 150)) w := by kernel_rfl
theorem as_direct25 (w : World) : (Rtype.directlyAssignable 116 116).run Tryz.prog w = .ok true w := by kernel_rfl
theorem as_set25 (ta b e : Addr) (old : Value) (W : World) (hb : W.cell? b = some (.pointer (some e))) (ht : W.cell? ta = some old) (hf : W.frozen? ta = false) :
    (ReflectliteValue.set #[.agg #[.pointer (some ⟨17, 116, none⟩), .pointer (some ta), .int .u64 406], .agg #[.pointer (some ⟨17, 116, none⟩), .pointer (some b), .int .u64 150]]).run Tryz.prog W
      = .ok (.tuple #[]) (W.setCell ta (.pointer (some e))) := by
  rw [rls]
  simp only [Sem.run_bind, as_parts25a, as_parts25, Result.andThen]
  simp [ReflectliteValue.flagAddr, loadVar, isAgg, underlying, Tryz.underlying116, hb, Result.andThen, as_direct25, storeVar, Value.cells, storeCells, Addr.add]
  rw [run_store Tryz.prog W ta _ _ (by rfl)]
  simp [ht, hf]

set_option maxHeartbeats 4000000 in
theorem as_hit (e t : Addr) (old : Value) (w : World) (hg : w.cell? ⟨12, 0, none⟩ = some (.iface 185 (.agg #[.pointer (some ⟨17, 31, none⟩)]))) (ht0 : w.cell? t = some old) (hf0 : w.frozen? t = false) :
    Calls Tryz.prog 62 #[.iface 116 (.pointer (some e)), .iface 118 (.pointer (some t))] w fun ev w' => ev = .returned (.bool true) ∧ w' = ((((w.alloc (.cells #[.pointer (some t)] 118)).alloc (.cells #[.pointer (some ⟨17, 118, none⟩), .pointer (some ⟨w.heap.size, 0, none⟩), .int .u64 150] 154)).alloc (.cells #[.pointer (some ⟨17, 118, none⟩), .pointer (some ⟨w.heap.size, 0, none⟩), .int .u64 150] 154)).alloc (.cells #[.pointer (some e)] 116)).setCell t (.pointer (some e)) := by
  have h6 := @run_callFunc_extern Tryz.prog 83 _ (fun args => ReflectliteValue.unpack (args.getD 0 (.tuple #[]))) Tryz.func83 (by kernel_rfl) (by kernel_rfl) (by kernel_rfl) (by kernel_rfl)
  have h7 := @run_callFunc_extern Tryz.prog 84 _ (ReflectliteValue.methodAny (ReflectliteValue.valueError "reflectlite.Value.Type" 0) (fun t _ _ _ => ReflectliteType.toType t)) Tryz.func84 (by kernel_rfl) (by kernel_rfl) (by kernel_rfl) (by kernel_rfl)
  have h8 := @run_callFunc_extern Tryz.prog 85 _ (ReflectliteValue.method (ReflectliteValue.valueError "reflectlite.Value.IsNil" 0) ReflectliteValue.isNil) Tryz.func85 (by kernel_rfl) (by kernel_rfl) (by kernel_rfl) (by kernel_rfl)
  have h27 := @run_callFunc_extern Tryz.prog 173 _ (ReflectliteType.abiMethod fun t => do pure (.int .u8 (← Rtype.kind t))) Tryz.func173 (by kernel_rfl) (by kernel_rfl) (by kernel_rfl) (by kernel_rfl)
  have h37 := @run_callFunc_extern Tryz.prog 184 _ (ReflectliteType.method ReflectliteType.elem) Tryz.func184 (by kernel_rfl) (by kernel_rfl) (by kernel_rfl) (by kernel_rfl)
  have h38 := @run_callFunc_extern Tryz.prog 185 _ (ReflectliteType.relation "Implements" ReflectliteType.implements_) Tryz.func185 (by kernel_rfl) (by kernel_rfl) (by kernel_rfl) (by kernel_rfl)
  have h10 := @run_callFunc_extern Tryz.prog 87 _ ReflectliteType.typeOf Tryz.func87 (by kernel_rfl) (by kernel_rfl) (by kernel_rfl) (by kernel_rfl)
  have h35 := @run_callFunc_extern Tryz.prog 182 _ (ReflectliteType.relation "AssignableTo" ReflectliteType.assignableTo) Tryz.func182 (by kernel_rfl) (by kernel_rfl) (by kernel_rfl) (by kernel_rfl)
  have h11 := @run_callFunc_extern Tryz.prog 112 _ (ReflectliteValue.method (ReflectliteValue.valueError "reflectlite.Value.Elem" 0) ReflectliteValue.elem) Tryz.func112 (by kernel_rfl) (by kernel_rfl) (by kernel_rfl) (by kernel_rfl)
  have h12 := @run_callFunc_extern Tryz.prog 113 _ ReflectliteValue.set Tryz.func113 (by kernel_rfl) (by kernel_rfl) (by kernel_rfl) (by kernel_rfl)
  have tO := as_typeOf25
  have mA := as_methodAssignableTo
  have a25 := as_assignable25
  have v25 := as_valueOf25
  have f6 := as_valueOf27
  have f7 := as_type27
  have mK := as_methodKind
  have mE := as_methodElem
  have mI := as_methodImplements
  have k27 := as_kind27
  have k25 := as_kind25
  have e27 := as_elem27
  have i25 := as_implements25
  have n8 := as_isNil27 ⟨w.heap.size, 0, none⟩ t ((w.alloc (.cells #[.pointer (some t)] 118)).alloc (.cells #[.pointer (some ⟨17, 118, none⟩), .pointer (some ⟨w.heap.size, 0, none⟩), .int .u64 150] 154)) (by simp)
  have hlt : 12 < w.heap.size := by
    rcases Nat.lt_or_ge 12 w.heap.size with h | h0
    · exact h
    · simp [World.cell?, Array.getElem?_eq_none h0] at hg
  have hg2 : ((w.alloc (.cells #[.pointer (some t)] 118)).alloc (.cells #[.pointer (some ⟨17, 118, none⟩), .pointer (some ⟨w.heap.size, 0, none⟩), .int .u64 150] 154)).cell? ⟨12, 0, none⟩ = some (.iface 185 (.agg #[.pointer (some ⟨17, 31, none⟩)])) := by
    rw [World.cell?_alloc_lt _ _ ⟨12, 0, none⟩ (by simp; omega), World.cell?_alloc_lt _ _ ⟨12, 0, none⟩ hlt]; exact hg
  have htl : t.block < w.heap.size := by
    rcases Nat.lt_or_ge t.block w.heap.size with h | h
    · exact h
    · simp [World.cell?, Array.getElem?_eq_none h] at ht0
  have el := as_elemV27 ⟨w.heap.size, 0, none⟩ t (((w.alloc (.cells #[.pointer (some t)] 118)).alloc (.cells #[.pointer (some ⟨17, 118, none⟩), .pointer (some ⟨w.heap.size, 0, none⟩), .int .u64 150] 154)).alloc (.cells #[.pointer (some ⟨17, 118, none⟩), .pointer (some ⟨w.heap.size, 0, none⟩), .int .u64 150] 154)) (by rw [World.cell?_alloc_lt _ _ ⟨w.heap.size, 0, none⟩ (by simp; omega)]; simp)
  have st := as_set25 t ⟨w.heap.size + 1 + 1 + 1, 0, none⟩ e old ((((w.alloc (.cells #[.pointer (some t)] 118)).alloc (.cells #[.pointer (some ⟨17, 118, none⟩), .pointer (some ⟨w.heap.size, 0, none⟩), .int .u64 150] 154)).alloc (.cells #[.pointer (some ⟨17, 118, none⟩), .pointer (some ⟨w.heap.size, 0, none⟩), .int .u64 150] 154)).alloc (.cells #[.pointer (some e)] 116))
    (by rw [World.cell?_alloc_at _ _ _ _ (by simp)]; rfl)
    (by rw [World.cell?_alloc_lt _ _ t (by simp; omega), World.cell?_alloc_lt _ _ t (by simp; omega), World.cell?_alloc_lt _ _ t (by simp; omega), World.cell?_alloc_lt _ _ t htl]; exact ht0)
    (by rw [World.frozen?_alloc_old _ _ t (by simp; omega), World.frozen?_alloc_old _ _ t (by simp; omega), World.frozen?_alloc_old _ _ t (by simp; omega), World.frozen?_alloc_old _ _ t (Nat.ne_of_lt htl)]; exact hf0)
  go_enter Tryz.func62, Tryz.ntmps62
  go_wp2
  refine wp_loop_rounds 1 ?_
  rw [rounds_succ]
  go_wp2
  go_ret
  exact ⟨rfl, rfl⟩
/-! ### an error of errors.New's make is no *api.Fault -/
theorem as_typeOfE (v : Value) (w : World) : (ReflectliteType.typeOf #[.iface 247 v]).run Tryz.prog w = .ok (.iface 185 (.agg #[.pointer (some ⟨17, 247, none⟩)])) w := by kernel_rfl
theorem as_assignableE (w : World) : (ReflectliteType.relation "AssignableTo" ReflectliteType.assignableTo #[.agg #[.pointer (some ⟨17, 247, none⟩)], .iface 185 (.agg #[.pointer (some ⟨17, 116, none⟩)])]).run Tryz.prog w = .ok (.bool false) w := by kernel_rfl
theorem noAsE (v : Value) (xT : TypeId) (w : World) : (Instr.typeAssert (.iface 247 v) xT 189 true).run Tryz.prog w = .ok (.tuple #[.nilIface, .bool false]) w := run_typeAssert_lacksB Tryz.underlying189 (by kernel_rfl) (by kernel_rfl) v xT w
theorem noUnwrapE (v : Value) (xT : TypeId) (w : World) : (Instr.typeAssert (.iface 247 v) xT 192 true).run Tryz.prog w = .ok (.tuple #[.nilIface, .bool false]) w := run_typeAssert_lacksB Tryz.underlying192 (by kernel_rfl) (by kernel_rfl) v xT w
theorem noUnwrapsE (v : Value) (xT : TypeId) (w : World) : (Instr.typeAssert (.iface 247 v) xT 194 true).run Tryz.prog w = .ok (.tuple #[.nilIface, .bool false]) w := run_typeAssert_lacksB Tryz.underlying194 (by kernel_rfl) (by kernel_rfl) v xT w
theorem noIsE (v : Value) (xT : TypeId) (w : World) : (Instr.typeAssert (.iface 247 v) xT 196 true).run Tryz.prog w = .ok (.tuple #[.nilIface, .bool false]) w := run_typeAssert_lacksB Tryz.underlying196 (by kernel_rfl) (by kernel_rfl) v xT w

set_option maxHeartbeats 4000000 in
theorem as_miss (e t : Addr) (old : Value) (w : World) (hg : w.cell? ⟨12, 0, none⟩ = some (.iface 185 (.agg #[.pointer (some ⟨17, 31, none⟩)]))) (ht0 : w.cell? t = some old) :
    Calls Tryz.prog 62 #[.iface 247 (.pointer (some e)), .iface 118 (.pointer (some t))] w fun ev w' => ev = .returned (.bool false) ∧ Below w.heap.size w w' := by
  have h6 := @run_callFunc_extern Tryz.prog 83 _ (fun args => ReflectliteValue.unpack (args.getD 0 (.tuple #[]))) Tryz.func83 (by kernel_rfl) (by kernel_rfl) (by kernel_rfl) (by kernel_rfl)
  have h7 := @run_callFunc_extern Tryz.prog 84 _ (ReflectliteValue.methodAny (ReflectliteValue.valueError "reflectlite.Value.Type" 0) (fun t _ _ _ => ReflectliteType.toType t)) Tryz.func84 (by kernel_rfl) (by kernel_rfl) (by kernel_rfl) (by kernel_rfl)
  have h8 := @run_callFunc_extern Tryz.prog 85 _ (ReflectliteValue.method (ReflectliteValue.valueError "reflectlite.Value.IsNil" 0) ReflectliteValue.isNil) Tryz.func85 (by kernel_rfl) (by kernel_rfl) (by kernel_rfl) (by kernel_rfl)
  have h27 := @run_callFunc_extern Tryz.prog 173 _ (ReflectliteType.abiMethod fun t => do pure (.int .u8 (← Rtype.kind t))) Tryz.func173 (by kernel_rfl) (by kernel_rfl) (by kernel_rfl) (by kernel_rfl)
  have h37 := @run_callFunc_extern Tryz.prog 184 _ (ReflectliteType.method ReflectliteType.elem) Tryz.func184 (by kernel_rfl) (by kernel_rfl) (by kernel_rfl) (by kernel_rfl)
  have h38 := @run_callFunc_extern Tryz.prog 185 _ (ReflectliteType.relation "Implements" ReflectliteType.implements_) Tryz.func185 (by kernel_rfl) (by kernel_rfl) (by kernel_rfl) (by kernel_rfl)
  have h10 := @run_callFunc_extern Tryz.prog 87 _ ReflectliteType.typeOf Tryz.func87 (by kernel_rfl) (by kernel_rfl) (by kernel_rfl) (by kernel_rfl)
  have h35 := @run_callFunc_extern Tryz.prog 182 _ (ReflectliteType.relation "AssignableTo" ReflectliteType.assignableTo) Tryz.func182 (by kernel_rfl) (by kernel_rfl) (by kernel_rfl) (by kernel_rfl)
  have tO := as_typeOfE
  have mA := as_methodAssignableTo
  have a25 := as_assignableE
  have f6 := as_valueOf27
  have f7 := as_type27
  have mK := as_methodKind
  have mE := as_methodElem
  have mI := as_methodImplements
  have k27 := as_kind27
  have k25 := as_kind25
  have e27 := as_elem27
  have i25 := as_implements25
  have nA := noAsE
  have nU := noUnwrapE
  have nUs := noUnwrapsE
  have n8 := as_isNil27 ⟨w.heap.size, 0, none⟩ t ((w.alloc (.cells #[.pointer (some t)] 118)).alloc (.cells #[.pointer (some ⟨17, 118, none⟩), .pointer (some ⟨w.heap.size, 0, none⟩), .int .u64 150] 154)) (by simp)
  have hlt : 12 < w.heap.size := by
    rcases Nat.lt_or_ge 12 w.heap.size with h | h0
    · exact h
    · simp [World.cell?, Array.getElem?_eq_none h0] at hg
  have hg2 : ((w.alloc (.cells #[.pointer (some t)] 118)).alloc (.cells #[.pointer (some ⟨17, 118, none⟩), .pointer (some ⟨w.heap.size, 0, none⟩), .int .u64 150] 154)).cell? ⟨12, 0, none⟩ = some (.iface 185 (.agg #[.pointer (some ⟨17, 31, none⟩)])) := by
    rw [World.cell?_alloc_lt _ _ ⟨12, 0, none⟩ (by simp; omega), World.cell?_alloc_lt _ _ ⟨12, 0, none⟩ hlt]; exact hg
  have htl : t.block < w.heap.size := by
    rcases Nat.lt_or_ge t.block w.heap.size with h | h
    · exact h
    · simp [World.cell?, Array.getElem?_eq_none h] at ht0
  go_enter Tryz.func62, Tryz.ntmps62
  go_wp2
  refine wp_loop_rounds 1 ?_
  rw [rounds_succ]
  go_wp2
  go_ret
  exact ⟨rfl, (((Below.refl _ _).alloc (Nat.le_refl _) _).alloc (by simp) _).alloc (by simp; omega) _⟩
end Go.Proofs.YtabboioamdphmaaGreatDoor
/- errors.Is at errors of errors.New's make; plain.Code and the laws' coded, at nil and at the program's own errors. -/
namespace Go.Proofs.YtabboioamdphmaaGreatDoor
open Go.RowKit Go.Extern.Stop Go.Stop Go.Extern

theorem is_comparable (w : World) : ((Extern.ReflectliteType.method fun t => do Rtype.noPackHeld "Comparable" t; (fun a => Value.bool a.comparable) <$> typeInfo t) #[.agg #[.pointer (some ⟨17, 247, none⟩)]]).run Tryz.prog w = .ok (.bool true) w := by kernel_rfl
theorem is_methodComparable (v : Value) (w : World) : (Go.method 377 185 v "Comparable").run Tryz.prog w = .ok (183, v) w := by kernel_rfl
theorem is_comp : (Tryz.prog.info? 247).map (·.comparable) = some true := by kernel_rfl
theorem is_size : (Tryz.prog.info? 265).map (·.size) = some 1 := by kernel_rfl

theorem eql_same (a : Addr) (w : World) : (binOp .eql 31 (errV a) (errV a)).run Tryz.prog w = .ok (.bool true) w := by
  obtain ⟨i, hi, hc⟩ := Option.map_eq_some_iff.1 is_comp
  obtain ⟨j, hj, _⟩ := Option.map_eq_some_iff.1 is_size
  exact run_eql_iface_ptr_same w a Tryz.underlying31 Tryz.underlying247 hi hc hj
def Blk (w : World) (a : Addr) : Prop := ∃ c t, w.heap[a.block]? = some (.cells c t (0, 0))
theorem eql_other {a b : Addr} (w : World) (hne : a ≠ b) (ha : Blk w a) (hb : Blk w b) : (binOp .eql 31 (errV a) (errV b)).run Tryz.prog w = .ok (.bool false) w := by
  obtain ⟨i, hi, hc⟩ := Option.map_eq_some_iff.1 is_comp
  obtain ⟨j, hj, hs⟩ := Option.map_eq_some_iff.1 is_size
  obtain ⟨ca, ta, ha⟩ := ha
  obtain ⟨cb, tb, hb⟩ := hb
  exact run_eql_iface_ptr_other w Tryz.underlying31 Tryz.underlying247 hi hc hj (by rw [hs]; decide) hne ha hb

set_option maxRecDepth 100000 in
set_option maxHeartbeats 1000000 in
theorem is_same (a : Addr) (w : World) :
    Calls Tryz.prog 63 #[errV a, errV a] w fun e w' => e = .returned (.bool true) ∧ w = w' := by
  have h10 := @run_callFunc_extern Tryz.prog 87 _ ReflectliteType.typeOf Tryz.func87 (by kernel_rfl) (by kernel_rfl) (by kernel_rfl) (by kernel_rfl)
  have h30 := @run_callFunc_extern Tryz.prog 183 _ (Extern.ReflectliteType.method fun t => do Rtype.noPackHeld "Comparable" t; pure (.bool (← typeInfo t).comparable)) Tryz.func183 (by kernel_rfl) (by kernel_rfl) (by kernel_rfl) (by kernel_rfl)
  have tO := as_typeOfE
  have mC := is_methodComparable
  have cC := is_comparable
  have he := fun w => eql_same a w
  go_enter Tryz.func63, Tryz.ntmps63
  go_wp2
  refine wp_loop_rounds 1 ?_
  rw [rounds_succ]
  go_wp2
  go_ret
  exact ⟨rfl, rfl⟩
set_option maxRecDepth 100000 in
set_option maxHeartbeats 1000000 in
theorem is_other {a b : Addr} (w : World) (hne : a ≠ b) (ha : Blk w a) (hb : Blk w b) :
    Calls Tryz.prog 63 #[errV a, errV b] w fun e w' => e = .returned (.bool false) ∧ w = w' := by
  have h10 := @run_callFunc_extern Tryz.prog 87 _ ReflectliteType.typeOf Tryz.func87 (by kernel_rfl) (by kernel_rfl) (by kernel_rfl) (by kernel_rfl)
  have h30 := @run_callFunc_extern Tryz.prog 183 _ (Extern.ReflectliteType.method fun t => do Rtype.noPackHeld "Comparable" t; pure (.bool (← typeInfo t).comparable)) Tryz.func183 (by kernel_rfl) (by kernel_rfl) (by kernel_rfl) (by kernel_rfl)
  have tO := as_typeOfE
  have mC := is_methodComparable
  have cC := is_comparable
  have he := eql_other w hne ha hb
  have nI := noIsE
  have nU := noUnwrapE
  have nUs := noUnwrapsE
  clear hne ha hb
  go_enter Tryz.func63, Tryz.ntmps63
  go_wp2
  refine wp_loop_rounds 1 ?_
  rw [rounds_succ]
  go_wp2
  go_ret
  exact ⟨rfl, rfl⟩

structure ErrEnv (w : World) (E : Nat → Addr) : Prop where
  c0 : w.cell? ⟨3, 0, none⟩ = some (errV (E 0))
  c1 : w.cell? ⟨1, 0, none⟩ = some (errV (E 1))
  c2 : w.cell? ⟨2, 0, none⟩ = some (errV (E 2))
  c3 : w.cell? ⟨0, 0, none⟩ = some (errV (E 3))
  c4 : w.cell? ⟨4, 0, none⟩ = some (errV (E 4))
  c5 : w.cell? ⟨5, 0, none⟩ = some (errV (E 5))
  c6 : w.cell? ⟨6, 0, none⟩ = some (errV (E 6))
  c7 : w.cell? ⟨7, 0, none⟩ = some (errV (E 7))
  c8 : w.cell? ⟨8, 0, none⟩ = some (errV (E 8))
  c9 : w.cell? ⟨9, 0, none⟩ = some (errV (E 9))
  c10 : w.cell? ⟨10, 0, none⟩ = some (errV (E 10))
  c11 : w.cell? ⟨11, 0, none⟩ = some (errV (E 11))
  hnd : w.cell? ⟨12, 0, none⟩ = some (.iface 185 (.agg #[.pointer (some ⟨17, 31, none⟩)]))
  blk : ∀ k, k < 12 → Blk w (E k)
  ne : ∀ i j, i < 12 → j < 12 → i ≠ j → E i ≠ E j
theorem lt_of_cell {w : World} {p : Addr} {v : Value} (h : w.cell? p = some v) : p.block < w.heap.size := by
  rcases Nat.lt_or_ge p.block w.heap.size with h1 | h1
  · exact h1
  · simp [World.cell?, Array.getElem?_eq_none h1] at h
theorem Blk.below {n : Nat} {w w' : World} {a : Addr} (hb : Below n w w') (hn : w.heap.size ≤ n) (h : Blk w a) : Blk w' a := by
  obtain ⟨c, t, h⟩ := h
  exact ⟨c, t, (hb.block _ (Nat.lt_of_lt_of_le (Array.getElem?_eq_some_iff.1 h).1 hn)).trans h⟩
theorem ErrEnv.below {n : Nat} {w w' : World} {E : Nat → Addr} (hb : Below n w w') (hn : w.heap.size ≤ n) (h : ErrEnv w E) : ErrEnv w' E := by
  have c : ∀ {p v}, w.cell? p = some v → w'.cell? p = some v := fun {p v} h => (hb.cell (Nat.lt_of_lt_of_le (lt_of_cell h) hn)).trans h
  exact ⟨c h.c0, c h.c1, c h.c2, c h.c3, c h.c4, c h.c5, c h.c6, c h.c7, c h.c8, c h.c9, c h.c10, c h.c11, c h.hnd, fun k hk => (h.blk k hk).below hb hn, h.ne⟩

def errCells (E : Nat → Addr) : Array Value := #[errV (E 0), errV (E 1), errV (E 2), errV (E 3), errV (E 4), errV (E 5), errV (E 6), errV (E 7), errV (E 8), errV (E 9), errV (E 10), errV (E 11)]
theorem errCells_at (E : Nat → Addr) {k : Nat} (hk : k < 12) : (errCells E)[k]? = some (errV (E k)) := by
  rcases (show k = 0 ∨ k = 1 ∨ k = 2 ∨ k = 3 ∨ k = 4 ∨ k = 5 ∨ k = 6 ∨ k = 7 ∨ k = 8 ∨ k = 9 ∨ k = 10 ∨ k = 11 by omega) with rfl | rfl | rfl | rfl | rfl | rfl | rfl | rfl | rfl | rfl | rfl | rfl <;> rfl

set_option maxHeartbeats 1000000 in
theorem code_nil (w : World) :
    Calls Tryz.prog 39 #[.nilIface] w fun e w' => e = .returned (.tuple #[.int .i64 0, .int .i64 (-1)]) ∧ w = w' := by
  go_enter Tryz.func39, Tryz.ntmps39
  go_wp2
  go_ret2
  exact ⟨rfl, rfl⟩

set_option maxRecDepth 100000 in
set_option maxHeartbeats 2000000 in
theorem code_err (E : Nat → Addr) (i : Nat) (hi : i < 12) (w : World) (hE : ErrEnv w E) :
    Calls Tryz.prog 39 #[errV (E i)] w fun e w' => e = .returned (.tuple #[.int .i64 ((i : Int) + 1), .int .i64 (-1)]) ∧ Below w.heap.size w w' := by
  go_enter Tryz.func39, Tryz.ntmps39
  go_wp2_with fail
  refine (as_miss (E i) ⟨w.heap.size, 0, none⟩ (.pointer none) _ ?_ ?_).mono ?_
  · exact (World.cell?_alloc_lt _ _ _ (lt_of_cell hE.hnd)).trans hE.hnd
  · simp
  rintro e w1 ⟨rfl, hb⟩
  simp only [World.size_alloc] at hb
  have hB : Below w.heap.size w w1 := ((Below.refl _ w).alloc (Nat.le_refl _) _).trans (hb.mono (by omega))
  have hE1 := hE.below hB (Nat.le_refl _)
  have hsz := hB.size
  obtain ⟨d0, d1, d2, d3, d4, d5, d6, d7, d8, d9, d10, d11, _, hblk, hne⟩ := hE1
  have Hblk := Lib.hid hblk; clear hblk
  have Hne := Lib.hid hne; clear hne
  clear hE hb
  go_wp2
  clear d0 d1 d2 d3 d4 d5 d6 d7 d8 d9 d10 d11
  obtain ⟨W, hW⟩ : ∃ W, w1.alloc (.cells #[errV (E 0), errV (E 1), errV (E 2), errV (E 3), errV (E 4), errV (E 5), errV (E 6), errV (E 7), errV (E 8), errV (E 9), errV (E 10), errV (E 11)] 31) = W := ⟨_, rfl⟩
  rw [hW]
  have hcs : ∀ k, k < 12 → W.cell? ⟨w1.heap.size, k, none⟩ = some (errV (E k)) := fun k hk => by
    rw [← hW, World.cell?_alloc_at _ _ _ _ rfl]
    exact errCells_at E hk
  have hBW : Below w.heap.size w W := by rw [← hW]; exact hB.alloc hsz _
  have hbk : ∀ k, k < 12 → Blk W (E k) := fun k hk => by
    rw [← hW]
    exact (Hblk.out k hk).below ((Below.refl w1.heap.size w1).alloc (Nat.le_refl _) _) (Nat.le_refl _)
  have Hcs := Lib.hid hcs; clear hcs
  have Hbk := Lib.hid hbk; clear hbk
  clear hW hB Hblk
  go_loop [30, 3] (fun vk va => ∃ k : Nat, k ≤ i ∧ vk = .int .i64 k ∧ va = .int .i64 (-1)) (fun k _ => 12 - (intOf k).toNat)
  case atStart => exact ⟨0, by omega, rfl, rfl⟩
  case round =>
    obtain ⟨k, hk, rfl, rfl⟩ := hrel
    have hck := Hcs.out k (by omega)
    have hk12 : (k : Int) < 12 := by omega
    by_cases hki : k = i
    · subst hki
      have His := Lib.hid (is_same (E k) W)
      go_wp2_with fail
      refine His.out.mono ?_
      rintro e w' ⟨rfl, rfl⟩
      go_wp2
      go_ret2
      exact ⟨rfl, hBW⟩
    · have His := Lib.hid (is_other (a := E i) (b := E k) W (Hne.out i k hi (by omega) (Ne.symm hki)) (Hbk.out i hi) (Hbk.out k (by omega)))
      go_wp2_with fail
      refine His.out.mono ?_
      rintro e w' ⟨rfl, rfl⟩
      go_wp2
      go_round
      case rel => exact ⟨k + 1, by omega, by go_num, rfl⟩
      case measure => simp [intOf]; omega

/-! ### the laws' coded -/
end Go.Proofs.YtabboioamdphmaaGreatDoor
/- Walks: slices.Clone of bytes; matrix.Check; the document's IsMatrix; the law's wideMatrix. -/
namespace Go.Proofs.YtabboioamdphmaaGreatDoor
open Go.RowKit

set_option maxHeartbeats 1000000 in
set_option maxRecDepth 100000 in
theorem clone_walk (n₀ : Nat) (ad : Addr) (c : Nat) (l : List Nat) (w : World) (hr : RowAt n₀ w (some ad) l) (hn : n₀ ≤ w.heap.size) (hl : l.length ≤ 140737488355328) :
    Calls Tryz.prog 121 #[.slice (some ad) l.length c] w fun e w' => (∃ v, e = .returned v ∧ OwnB w.heap.size w' v l) ∧ Below w.heap.size w w' := by
  have q := fun (w : World) (a : Option Addr) (n c n' c' : Nat) => Lib.run_eql_slice_nil (P := Tryz.prog) w 112 _ a n c n' c' Tryz.underlying112
  have hx : (w.alloc (.cells #[] 5)).heap.size = w.heap.size + 1 := by simp
  have hown : OwnB w.heap.size (w.alloc (.cells #[] 5)) (.slice (some ⟨w.heap.size, 0, none⟩) 0 0) [] := World.ownsRow_made w #[] 0 (Nat.le_refl _) (Nat.zero_le _) rfl
  have hr2 : RowAt n₀ (w.alloc (.cells #[] 5)) (some ad) l := hr.below ((Below.refl _ _).alloc hn _)
  have Hown := Lib.hid hown
  have Hr := Lib.hid hr2
  clear hown hr hr2 hx
  go_enter Tryz.func121, Tryz.ntmps121
  go_wp2_with (at_builtin; refine append_row 5 6 rfl rfl w.heap.size n₀ (.slice (some ⟨w.heap.size, 0, none⟩) 0 0) [] l (some ad) c rfl rfl Hown.out Hr.out (fun e => by cases e) (by simpa using hl) (by simp) ?_; intro v' w1 h1 h2 _)
  have hB : Below w.heap.size w w1 := ((Below.refl _ w).alloc (Nat.le_refl _) _).grown h2 (by simp) (by intro k hk; exact Nat.le_of_eq (Option.some.inj hk))
  have h3 : OwnB w.heap.size w1 v' l := h1
  clear h1 h2
  have H3 := Lib.hid h3
  clear h3
  go_wp2
  go_ret
  exact ⟨⟨v', rfl, H3.out⟩, hB⟩

/-! ### is it a matrix? -/
structure IsMat (L : List (List Nat)) : Prop where
  n1 : 1 ≤ L.length
  n2 : L.length ≤ 16
  c1 : 1 ≤ (L[0]?.getD []).length
  c2 : (L[0]?.getD []).length ≤ 16
  all : ∀ i, i < L.length → (L[i]?.getD []).length = (L[0]?.getD []).length
set_option maxRecDepth 100000 in
theorem chk_pred (a0 a1 : Option Addr) (b off n cap k c c0 cap0 : Nat) (box : Addr) (w : World) (hn : 0 < n) (hb : w.cell? box = some (.slice (some ⟨b, off, none⟩) n cap)) (hc : w.cell? ⟨b, off, none⟩ = some (.slice a0 c0 cap0)) :
    Calls Tryz.prog 135 #[.slice a1 k c, .pointer (some box)] w fun e w' => e = .returned (.bool (decide (k ≠ c0))) ∧ w = w' := by
  have hn2 : (0 : Int) < n := by omega
  by_cases hx : k = c0
  · subst hx
    go_enter Tryz.func135, Tryz.ntmps135
    go_wp2
    go_ret
    exact ⟨by simp, rfl⟩
  · have hx0 : ((k : Int) != (c0 : Int)) = true := by simp; omega
    have hx1 : (k != c0) = true := by simpa using hx
    go_enter Tryz.func135, Tryz.ntmps135
    go_wp2
    go_ret
    exact ⟨by simp [hx], rfl⟩
set_option maxRecDepth 100000 in
set_option maxHeartbeats 1000000 in
theorem chk_find (g off m cap c0 : Nat) (A : Nat → Option Addr) (Ln C : Nat → Nat) (box : Addr) (w : World) (hm : m ≤ maxLen) (h0 : 0 < m) (hc0 : Ln 0 = c0) (hb : w.cell? box = some (.slice (some ⟨g, off, none⟩) m cap))
    (hh : ∀ j, j < m → w.cell? ⟨g, off + j, none⟩ = some (.slice (A j) (Ln j) (C j))) :
    Calls Tryz.prog 136 #[.slice (some ⟨g, off, none⟩) m cap, .func (.func 135) #[] #[.pointer (some box)]] w
      fun e w' => (((∀ j, j < m → Ln j = c0) ∧ e = .returned (.int .i64 (-1))) ∨ ∃ k, k < m ∧ Ln k ≠ c0 ∧ e = .returned (.int .i64 (k : Nat))) ∧ w = w' := by
  have hm' : m ≤ 9223372036854775807 := hm
  have hz0 := hh 0 h0
  rw [hc0] at hz0
  have Hz0 := Lib.hid hz0
  have Hh := Lib.hid hh
  have Hc0 := Lib.hid hc0
  clear hh hz0 hc0
  go_enter Tryz.func136, Tryz.ntmps136
  go_wp2
  go_loop [8] (fun vi => ∃ k : Nat, k ≤ m ∧ vi = .int .i64 k ∧ ∀ j, j < k → Ln j = c0) (fun i => m - (intOf i).toNat)
  case atStart => exact ⟨0, by omega, rfl, fun j hj => by omega⟩
  case round =>
    obtain ⟨k, hk, rfl, hz⟩ := hrel
    have Hz := Lib.hid hz; clear hz
    have hk2 : k < m ∨ k = m := by omega
    rcases hk2 with hlt | rfl
    · have hlt2 : (k : Int) < m := by omega
      have h1 := Hh.out k hlt
      have Hp := Lib.hid (chk_pred (A 0) (A k) g off m cap (Ln k) (C k) c0 (C 0) box w h0 hb Hz0.out)
      by_cases hx : Ln k = c0
      · have e1 : decide (Ln k ≠ c0) = false := by simp [hx]
        rw [e1] at Hp
        have Hx := Lib.hid hx; clear hx
        go_wp2_with (go_at_call 135; refine Hp.out.mono ?_; rintro e w' ⟨rfl, rfl⟩)
        go_round
        case rel => exact ⟨k + 1, by omega, by go_num, fun j hj => by
          by_cases e : j = k
          · rw [e, Hx.out]
          · exact Hz.out j (by omega)⟩
        case measure => simp [intOf]; omega
      · have e1 : decide (Ln k ≠ c0) = true := by simp [hx]
        rw [e1] at Hp
        go_wp2_with (go_at_call 135; refine Hp.out.mono ?_; rintro e w' ⟨rfl, rfl⟩)
        go_ret
        exact ⟨.inr ⟨k, hlt, hx, rfl⟩, rfl⟩
    · go_wp2
      go_ret
      exact ⟨.inl ⟨Hz.out, rfl⟩, rfl⟩
set_option maxRecDepth 100000 in
theorem chk_contains (g off m cap c0 : Nat) (A : Nat → Option Addr) (Ln C : Nat → Nat) (box : Addr) (w : World) (hm : m ≤ maxLen) (h0 : 0 < m) (hc0 : Ln 0 = c0) (hb : w.cell? box = some (.slice (some ⟨g, off, none⟩) m cap))
    (hh : ∀ j, j < m → w.cell? ⟨g, off + j, none⟩ = some (.slice (A j) (Ln j) (C j))) :
    Calls Tryz.prog 134 #[.slice (some ⟨g, off, none⟩) m cap, .func (.func 135) #[] #[.pointer (some box)]] w
      fun e w' => (((∀ j, j < m → Ln j = c0) ∧ e = .returned (.bool false)) ∨ (∃ k, k < m ∧ Ln k ≠ c0) ∧ e = .returned (.bool true)) ∧ w = w' := by
  have H := Lib.hid (chk_find g off m cap c0 A Ln C box w hm h0 hc0 hb hh)
  clear hh hb hc0
  go_enter Tryz.func134, Tryz.ntmps134
  go_wp2_with fail
  refine H.out.mono ?_
  rintro e w' ⟨hres, rfl⟩
  rcases hres with ⟨hz, rfl⟩ | ⟨k, hk, hne, rfl⟩
  · have Hz := Lib.hid hz; clear hz
    go_wp2
    go_ret
    exact ⟨.inl ⟨Hz.out, rfl⟩, rfl⟩
  · have hk0 : (0 : Int) ≤ (k : Int) := by omega
    have Hne := Lib.hid hne; clear hne
    go_wp2
    go_ret
    exact ⟨.inr ⟨⟨k, hk, Hne.out⟩, by simp⟩, rfl⟩
end Go.Proofs.YtabboioamdphmaaGreatDoor
