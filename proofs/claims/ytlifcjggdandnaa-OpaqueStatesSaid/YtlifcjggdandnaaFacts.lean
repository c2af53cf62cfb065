/- The facts of this program's operations: types looked up. Printed by facts.py. -/
import Derived.Test.YtlifcjggdandnaaE31
import Derived.Test.YtlifcjggdandnaaRows
import Derived.KernelRfl
namespace Go.Proofs.Ytlifcjggdandnaa
open Go.Ideal
set_option maxRecDepth 100000
@[simp] theorem sz_3 : tsize Try.prog 3 = some 1 := by kernel_rfl
@[simp] theorem sz_5 : tsize Try.prog 5 = some 1 := by kernel_rfl
@[simp] theorem sz_9 : tsize Try.prog 9 = some 1 := by kernel_rfl
@[simp] theorem sz_39 : tsize Try.prog 39 = some 5 := by kernel_rfl
@[simp] theorem sz_41 : tsize Try.prog 41 = some 7 := by kernel_rfl
@[simp] theorem sz_43 : tsize Try.prog 43 = some 11 := by kernel_rfl
@[simp] theorem sz_45 : tsize Try.prog 45 = some 23 := by kernel_rfl
@[simp] theorem sz_53 : tsize Try.prog 53 = some 8 := by kernel_rfl
@[simp] theorem sz_55 : tsize Try.prog 55 = some 2 := by kernel_rfl
@[simp] theorem sz_74 : tsize Try.prog 74 = some 3 := by kernel_rfl
@[simp] theorem sz_81 : tsize Try.prog 81 = some 1 := by kernel_rfl
@[simp] theorem sz_82 : tsize Try.prog 82 = some 1 := by kernel_rfl
@[simp] theorem sz_109 : tsize Try.prog 109 = some 2 := by kernel_rfl
@[simp] theorem sz_110 : tsize Try.prog 110 = some 24 := by kernel_rfl
@[simp] theorem sz_112 : tsize Try.prog 112 = some 1 := by kernel_rfl
@[simp] theorem sz_116 : tsize Try.prog 116 = some 2 := by kernel_rfl
theorem ag_3 : aggT Try.prog 3 = some false := by kernel_rfl
theorem ag_4 : aggT Try.prog 4 = some false := by kernel_rfl
theorem ag_9 : aggT Try.prog 9 = some false := by kernel_rfl
theorem ag_26 : aggT Try.prog 26 = some false := by kernel_rfl
theorem ag_39 : aggT Try.prog 39 = some true := by kernel_rfl
theorem ag_41 : aggT Try.prog 41 = some true := by kernel_rfl
theorem ag_43 : aggT Try.prog 43 = some true := by kernel_rfl
theorem ag_45 : aggT Try.prog 45 = some true := by kernel_rfl
theorem ag_51 : aggT Try.prog 51 = some false := by kernel_rfl
theorem ag_53 : aggT Try.prog 53 = some true := by kernel_rfl
theorem ag_55 : aggT Try.prog 55 = some true := by kernel_rfl
theorem ag_74 : aggT Try.prog 74 = some true := by kernel_rfl
theorem ag_81 : aggT Try.prog 81 = some false := by kernel_rfl
theorem ag_82 : aggT Try.prog 82 = some false := by kernel_rfl
theorem ag_107 : aggT Try.prog 107 = some false := by kernel_rfl
theorem ag_112 : aggT Try.prog 112 = some false := by kernel_rfl
theorem ag_116 : aggT Try.prog 116 = some true := by kernel_rfl
theorem ag_118 : aggT Try.prog 118 = some false := by kernel_rfl
theorem by_3 : ((Try.prog).info? 3).map (·.bytes) = some 8 := by kernel_rfl
theorem by_5 : ((Try.prog).info? 5).map (·.bytes) = some 1 := by kernel_rfl
theorem by_9 : ((Try.prog).info? 9).map (·.bytes) = some 16 := by kernel_rfl
theorem by_45 : ((Try.prog).info? 45).map (·.bytes) = some 168 := by kernel_rfl
theorem by_74 : ((Try.prog).info? 74).map (·.bytes) = some 40 := by kernel_rfl
@[simp] theorem zr_3 : izero Try.prog 3 = some [.int .i64 0] := by kernel_rfl
@[simp] theorem zr_5 : izero Try.prog 5 = some [.int .u8 0] := by kernel_rfl
@[simp] theorem zr_9 : izero Try.prog 9 = some [.string ⟨#[]⟩] := by kernel_rfl
@[simp] theorem zr_39 : izero Try.prog 39 = some [.int .i64 0, .int .i64 0, .int .i64 0, .int .i64 0, .int .i64 0] := by kernel_rfl
@[simp] theorem zr_41 : izero Try.prog 41 = some [.int .i64 0, .int .i64 0, .int .i64 0, .int .i64 0, .int .i64 0, .int .i64 0, .int .i64 0] := by kernel_rfl
@[simp] theorem zr_43 : izero Try.prog 43 = some [.int .i64 0, .int .i64 0, .int .i64 0, .int .i64 0, .int .i64 0, .int .i64 0, .int .i64 0, .int .i64 0, .int .i64 0, .int .i64 0, .int .i64 0] := by kernel_rfl
@[simp] theorem zr_45 : izero Try.prog 45 = some [.int .i64 0, .int .i64 0, .int .i64 0, .int .i64 0, .int .i64 0, .int .i64 0, .int .i64 0, .int .i64 0, .int .i64 0, .int .i64 0, .int .i64 0, .int .i64 0, .int .i64 0, .int .i64 0, .int .i64 0, .int .i64 0, .int .i64 0, .int .i64 0, .int .i64 0, .int .i64 0, .bool false, .bool false, .bool false] := by kernel_rfl
@[simp] theorem zr_53 : izero Try.prog 53 = some [.int .i64 0, .int .i64 0, .int .i64 0, .int .i64 0, .bool false, .bool false, .slice none 0 0, .slice none 0 0] := by kernel_rfl
@[simp] theorem zr_55 : izero Try.prog 55 = some [.int .i64 0, .int .i64 0] := by kernel_rfl
@[simp] theorem zr_74 : izero Try.prog 74 = some [.int .i64 0, .bool false, .slice none 0 0] := by kernel_rfl
@[simp] theorem zr_84 : izero Try.prog 84 = some [.pointer none, .slice none 0 0] := by kernel_rfl
@[simp] theorem zr_92 : izero Try.prog 92 = some [.int .u8 0, .int .u8 0, .int .u8 0, .int .u8 0, .int .u8 0, .int .u8 0, .int .u8 0, .int .u8 0, .int .u8 0, .int .u8 0, .int .u8 0, .int .u8 0, .int .u8 0, .int .u8 0, .int .u8 0, .int .u8 0, .int .u8 0, .int .u8 0, .int .u8 0, .int .u8 0] := by kernel_rfl
@[simp] theorem zr_109 : izero Try.prog 109 = some [.string ⟨#[]⟩, .slice none 0 0] := by kernel_rfl
@[simp] theorem zr_110 : izero Try.prog 110 = some [.string ⟨#[]⟩, .slice none 0 0, .string ⟨#[]⟩, .slice none 0 0, .string ⟨#[]⟩, .slice none 0 0, .string ⟨#[]⟩, .slice none 0 0, .string ⟨#[]⟩, .slice none 0 0, .string ⟨#[]⟩, .slice none 0 0, .string ⟨#[]⟩, .slice none 0 0, .string ⟨#[]⟩, .slice none 0 0, .string ⟨#[]⟩, .slice none 0 0, .string ⟨#[]⟩, .slice none 0 0, .string ⟨#[]⟩, .slice none 0 0, .string ⟨#[]⟩, .slice none 0 0] := by kernel_rfl
@[simp] theorem zr_112 : izero Try.prog 112 = some [.int .i64 0] := by kernel_rfl
@[simp] theorem zr_116 : izero Try.prog 116 = some [.string ⟨#[]⟩, .int .i64 0] := by kernel_rfl
@[simp] theorem fa_39_0 (v : Value) : ifieldAddr Try.prog 39 v 0 = fAddr 0 v := ifieldAddr_of (by kernel_rfl) v
@[simp] theorem fa_39_1 (v : Value) : ifieldAddr Try.prog 39 v 1 = fAddr 1 v := ifieldAddr_of (by kernel_rfl) v
@[simp] theorem fa_39_2 (v : Value) : ifieldAddr Try.prog 39 v 2 = fAddr 2 v := ifieldAddr_of (by kernel_rfl) v
@[simp] theorem fa_39_3 (v : Value) : ifieldAddr Try.prog 39 v 3 = fAddr 3 v := ifieldAddr_of (by kernel_rfl) v
@[simp] theorem fa_39_4 (v : Value) : ifieldAddr Try.prog 39 v 4 = fAddr 4 v := ifieldAddr_of (by kernel_rfl) v
@[simp] theorem fa_41_0 (v : Value) : ifieldAddr Try.prog 41 v 0 = fAddr 0 v := ifieldAddr_of (by kernel_rfl) v
@[simp] theorem fa_41_1 (v : Value) : ifieldAddr Try.prog 41 v 1 = fAddr 1 v := ifieldAddr_of (by kernel_rfl) v
@[simp] theorem fa_41_2 (v : Value) : ifieldAddr Try.prog 41 v 2 = fAddr 2 v := ifieldAddr_of (by kernel_rfl) v
@[simp] theorem fa_41_3 (v : Value) : ifieldAddr Try.prog 41 v 3 = fAddr 3 v := ifieldAddr_of (by kernel_rfl) v
@[simp] theorem fa_41_4 (v : Value) : ifieldAddr Try.prog 41 v 4 = fAddr 4 v := ifieldAddr_of (by kernel_rfl) v
@[simp] theorem fa_41_5 (v : Value) : ifieldAddr Try.prog 41 v 5 = fAddr 5 v := ifieldAddr_of (by kernel_rfl) v
@[simp] theorem fa_41_6 (v : Value) : ifieldAddr Try.prog 41 v 6 = fAddr 6 v := ifieldAddr_of (by kernel_rfl) v
@[simp] theorem fa_43_0 (v : Value) : ifieldAddr Try.prog 43 v 0 = fAddr 0 v := ifieldAddr_of (by kernel_rfl) v
@[simp] theorem fa_43_1 (v : Value) : ifieldAddr Try.prog 43 v 1 = fAddr 1 v := ifieldAddr_of (by kernel_rfl) v
@[simp] theorem fa_43_2 (v : Value) : ifieldAddr Try.prog 43 v 2 = fAddr 2 v := ifieldAddr_of (by kernel_rfl) v
@[simp] theorem fa_43_3 (v : Value) : ifieldAddr Try.prog 43 v 3 = fAddr 3 v := ifieldAddr_of (by kernel_rfl) v
@[simp] theorem fa_43_4 (v : Value) : ifieldAddr Try.prog 43 v 4 = fAddr 4 v := ifieldAddr_of (by kernel_rfl) v
@[simp] theorem fa_45_0 (v : Value) : ifieldAddr Try.prog 45 v 0 = fAddr 0 v := ifieldAddr_of (by kernel_rfl) v
@[simp] theorem fa_45_1 (v : Value) : ifieldAddr Try.prog 45 v 1 = fAddr 1 v := ifieldAddr_of (by kernel_rfl) v
@[simp] theorem fa_45_2 (v : Value) : ifieldAddr Try.prog 45 v 2 = fAddr 6 v := ifieldAddr_of (by kernel_rfl) v
@[simp] theorem fa_45_3 (v : Value) : ifieldAddr Try.prog 45 v 3 = fAddr 17 v := ifieldAddr_of (by kernel_rfl) v
@[simp] theorem fa_45_4 (v : Value) : ifieldAddr Try.prog 45 v 4 = fAddr 18 v := ifieldAddr_of (by kernel_rfl) v
@[simp] theorem fa_45_5 (v : Value) : ifieldAddr Try.prog 45 v 5 = fAddr 19 v := ifieldAddr_of (by kernel_rfl) v
@[simp] theorem fa_45_6 (v : Value) : ifieldAddr Try.prog 45 v 6 = fAddr 20 v := ifieldAddr_of (by kernel_rfl) v
@[simp] theorem fa_45_7 (v : Value) : ifieldAddr Try.prog 45 v 7 = fAddr 21 v := ifieldAddr_of (by kernel_rfl) v
@[simp] theorem fa_45_8 (v : Value) : ifieldAddr Try.prog 45 v 8 = fAddr 22 v := ifieldAddr_of (by kernel_rfl) v
@[simp] theorem fa_53_0 (v : Value) : ifieldAddr Try.prog 53 v 0 = fAddr 0 v := ifieldAddr_of (by kernel_rfl) v
@[simp] theorem fa_53_2 (v : Value) : ifieldAddr Try.prog 53 v 2 = fAddr 2 v := ifieldAddr_of (by kernel_rfl) v
@[simp] theorem fa_53_3 (v : Value) : ifieldAddr Try.prog 53 v 3 = fAddr 3 v := ifieldAddr_of (by kernel_rfl) v
@[simp] theorem fa_53_4 (v : Value) : ifieldAddr Try.prog 53 v 4 = fAddr 4 v := ifieldAddr_of (by kernel_rfl) v
@[simp] theorem fa_53_5 (v : Value) : ifieldAddr Try.prog 53 v 5 = fAddr 5 v := ifieldAddr_of (by kernel_rfl) v
@[simp] theorem fa_53_6 (v : Value) : ifieldAddr Try.prog 53 v 6 = fAddr 6 v := ifieldAddr_of (by kernel_rfl) v
@[simp] theorem fa_53_7 (v : Value) : ifieldAddr Try.prog 53 v 7 = fAddr 7 v := ifieldAddr_of (by kernel_rfl) v
@[simp] theorem fa_55_0 (v : Value) : ifieldAddr Try.prog 55 v 0 = fAddr 0 v := ifieldAddr_of (by kernel_rfl) v
@[simp] theorem fa_55_1 (v : Value) : ifieldAddr Try.prog 55 v 1 = fAddr 1 v := ifieldAddr_of (by kernel_rfl) v
@[simp] theorem fa_74_0 (v : Value) : ifieldAddr Try.prog 74 v 0 = fAddr 0 v := ifieldAddr_of (by kernel_rfl) v
@[simp] theorem fa_74_1 (v : Value) : ifieldAddr Try.prog 74 v 1 = fAddr 1 v := ifieldAddr_of (by kernel_rfl) v
@[simp] theorem fa_74_2 (v : Value) : ifieldAddr Try.prog 74 v 2 = fAddr 2 v := ifieldAddr_of (by kernel_rfl) v
@[simp] theorem fa_84_0 (v : Value) : ifieldAddr Try.prog 84 v 0 = fAddr 0 v := ifieldAddr_of (by kernel_rfl) v
@[simp] theorem fa_84_1 (v : Value) : ifieldAddr Try.prog 84 v 1 = fAddr 1 v := ifieldAddr_of (by kernel_rfl) v
@[simp] theorem fa_109_0 (v : Value) : ifieldAddr Try.prog 109 v 0 = fAddr 0 v := ifieldAddr_of (by kernel_rfl) v
@[simp] theorem fa_109_1 (v : Value) : ifieldAddr Try.prog 109 v 1 = fAddr 1 v := ifieldAddr_of (by kernel_rfl) v
@[simp] theorem fa_116_0 (v : Value) : ifieldAddr Try.prog 116 v 0 = fAddr 0 v := ifieldAddr_of (by kernel_rfl) v
@[simp] theorem fa_116_1 (v : Value) : ifieldAddr Try.prog 116 v 1 = fAddr 1 v := ifieldAddr_of (by kernel_rfl) v
@[simp] theorem fa_120_0 (v : Value) : ifieldAddr Try.prog 120 v 0 = fAddr 0 v := ifieldAddr_of (by kernel_rfl) v
@[simp] theorem fa_120_1 (v : Value) : ifieldAddr Try.prog 120 v 1 = fAddr 1 v := ifieldAddr_of (by kernel_rfl) v
@[simp] theorem ld_3 (w0 : World) (h : Heap) (a : Addr) : iload Try.prog w0 h 3 a = rd w0 h a := iload_leaf ag_3 a
@[simp] theorem ld_4 (w0 : World) (h : Heap) (a : Addr) : iload Try.prog w0 h 4 a = rd w0 h a := iload_leaf ag_4 a
@[simp] theorem ld_9 (w0 : World) (h : Heap) (a : Addr) : iload Try.prog w0 h 9 a = rd w0 h a := iload_leaf ag_9 a
@[simp] theorem ld_26 (w0 : World) (h : Heap) (a : Addr) : iload Try.prog w0 h 26 a = rd w0 h a := iload_leaf ag_26 a
@[simp] theorem ld_39 (w0 : World) (h : Heap) (a : Addr) : iload Try.prog w0 h 39 a = (rdN w0 h a 5).map fun l => .agg l.toArray := iload_agg ag_39 sz_39 a
@[simp] theorem ld_41 (w0 : World) (h : Heap) (a : Addr) : iload Try.prog w0 h 41 a = (rdN w0 h a 7).map fun l => .agg l.toArray := iload_agg ag_41 sz_41 a
@[simp] theorem ld_43 (w0 : World) (h : Heap) (a : Addr) : iload Try.prog w0 h 43 a = (rdN w0 h a 11).map fun l => .agg l.toArray := iload_agg ag_43 sz_43 a
@[simp] theorem ld_45 (w0 : World) (h : Heap) (a : Addr) : iload Try.prog w0 h 45 a = (rdN w0 h a 23).map fun l => .agg l.toArray := iload_agg ag_45 sz_45 a
@[simp] theorem ld_51 (w0 : World) (h : Heap) (a : Addr) : iload Try.prog w0 h 51 a = rd w0 h a := iload_leaf ag_51 a
@[simp] theorem ld_53 (w0 : World) (h : Heap) (a : Addr) : iload Try.prog w0 h 53 a = (rdN w0 h a 8).map fun l => .agg l.toArray := iload_agg ag_53 sz_53 a
@[simp] theorem ld_55 (w0 : World) (h : Heap) (a : Addr) : iload Try.prog w0 h 55 a = (rdN w0 h a 2).map fun l => .agg l.toArray := iload_agg ag_55 sz_55 a
@[simp] theorem ld_74 (w0 : World) (h : Heap) (a : Addr) : iload Try.prog w0 h 74 a = (rdN w0 h a 3).map fun l => .agg l.toArray := iload_agg ag_74 sz_74 a
@[simp] theorem ld_81 (w0 : World) (h : Heap) (a : Addr) : iload Try.prog w0 h 81 a = rd w0 h a := iload_leaf ag_81 a
@[simp] theorem ld_82 (w0 : World) (h : Heap) (a : Addr) : iload Try.prog w0 h 82 a = rd w0 h a := iload_leaf ag_82 a
@[simp] theorem ld_107 (w0 : World) (h : Heap) (a : Addr) : iload Try.prog w0 h 107 a = rd w0 h a := iload_leaf ag_107 a
@[simp] theorem ld_112 (w0 : World) (h : Heap) (a : Addr) : iload Try.prog w0 h 112 a = rd w0 h a := iload_leaf ag_112 a
@[simp] theorem ld_116 (w0 : World) (h : Heap) (a : Addr) : iload Try.prog w0 h 116 a = (rdN w0 h a 2).map fun l => .agg l.toArray := iload_agg ag_116 sz_116 a
@[simp] theorem ld_118 (w0 : World) (h : Heap) (a : Addr) : iload Try.prog w0 h 118 a = rd w0 h a := iload_leaf ag_118 a
@[simp] theorem st_3 (h : Heap) (a : Addr) (v : Value) : istore Try.prog h 3 a v = stN 1 h a v := istore_of sz_3 a v
@[simp] theorem st_5 (h : Heap) (a : Addr) (v : Value) : istore Try.prog h 5 a v = stN 1 h a v := istore_of sz_5 a v
@[simp] theorem st_39 (h : Heap) (a : Addr) (v : Value) : istore Try.prog h 39 a v = stN 5 h a v := istore_of sz_39 a v
@[simp] theorem st_41 (h : Heap) (a : Addr) (v : Value) : istore Try.prog h 41 a v = stN 7 h a v := istore_of sz_41 a v
@[simp] theorem st_45 (h : Heap) (a : Addr) (v : Value) : istore Try.prog h 45 a v = stN 23 h a v := istore_of sz_45 a v
@[simp] theorem st_53 (h : Heap) (a : Addr) (v : Value) : istore Try.prog h 53 a v = stN 8 h a v := istore_of sz_53 a v
@[simp] theorem st_55 (h : Heap) (a : Addr) (v : Value) : istore Try.prog h 55 a v = stN 2 h a v := istore_of sz_55 a v
@[simp] theorem st_74 (h : Heap) (a : Addr) (v : Value) : istore Try.prog h 74 a v = stN 3 h a v := istore_of sz_74 a v
@[simp] theorem st_81 (h : Heap) (a : Addr) (v : Value) : istore Try.prog h 81 a v = stN 1 h a v := istore_of sz_81 a v
@[simp] theorem st_82 (h : Heap) (a : Addr) (v : Value) : istore Try.prog h 82 a v = stN 1 h a v := istore_of sz_82 a v
@[simp] theorem st_109 (h : Heap) (a : Addr) (v : Value) : istore Try.prog h 109 a v = stN 2 h a v := istore_of sz_109 a v
@[simp] theorem st_110 (h : Heap) (a : Addr) (v : Value) : istore Try.prog h 110 a v = stN 24 h a v := istore_of sz_110 a v
@[simp] theorem st_116 (h : Heap) (a : Addr) (v : Value) : istore Try.prog h 116 a v = stN 2 h a v := istore_of sz_116 a v
@[simp] theorem bd_39 (parts : List (Nat × Value)) : ibuild Try.prog 39 parts = buildV [.int .i64 0, .int .i64 0, .int .i64 0, .int .i64 0, .int .i64 0] (fun i => ([(0, 1), (1, 1), (2, 1), (3, 1), (4, 1)] : List (Nat × Nat))[i]?) parts := ibuild_struct zr_39 Try.underlying39 (by kernel_rfl) parts
@[simp] theorem bd_41 (parts : List (Nat × Value)) : ibuild Try.prog 41 parts = buildV [.int .i64 0, .int .i64 0, .int .i64 0, .int .i64 0, .int .i64 0, .int .i64 0, .int .i64 0] (fun i => ([(0, 1), (1, 1), (2, 1), (3, 1), (4, 1), (5, 1), (6, 1)] : List (Nat × Nat))[i]?) parts := ibuild_struct zr_41 Try.underlying41 (by kernel_rfl) parts
@[simp] theorem bd_43 (parts : List (Nat × Value)) : ibuild Try.prog 43 parts = buildV [.int .i64 0, .int .i64 0, .int .i64 0, .int .i64 0, .int .i64 0, .int .i64 0, .int .i64 0, .int .i64 0, .int .i64 0, .int .i64 0, .int .i64 0] (fun i => ([(0, 1), (1, 1), (2, 1), (3, 1), (4, 7)] : List (Nat × Nat))[i]?) parts := ibuild_struct zr_43 Try.underlying43 (by kernel_rfl) parts
@[simp] theorem bd_45 (parts : List (Nat × Value)) : ibuild Try.prog 45 parts = buildV [.int .i64 0, .int .i64 0, .int .i64 0, .int .i64 0, .int .i64 0, .int .i64 0, .int .i64 0, .int .i64 0, .int .i64 0, .int .i64 0, .int .i64 0, .int .i64 0, .int .i64 0, .int .i64 0, .int .i64 0, .int .i64 0, .int .i64 0, .int .i64 0, .int .i64 0, .int .i64 0, .bool false, .bool false, .bool false] (fun i => ([(0, 1), (1, 5), (6, 11), (17, 1), (18, 1), (19, 1), (20, 1), (21, 1), (22, 1)] : List (Nat × Nat))[i]?) parts := ibuild_struct zr_45 Try.underlying45 (by kernel_rfl) parts
@[simp] theorem bd_53 (parts : List (Nat × Value)) : ibuild Try.prog 53 parts = buildV [.int .i64 0, .int .i64 0, .int .i64 0, .int .i64 0, .bool false, .bool false, .slice none 0 0, .slice none 0 0] (fun i => ([(0, 1), (1, 1), (2, 1), (3, 1), (4, 1), (5, 1), (6, 1), (7, 1)] : List (Nat × Nat))[i]?) parts := ibuild_struct zr_53 Try.underlying53 (by kernel_rfl) parts
@[simp] theorem bd_55 (parts : List (Nat × Value)) : ibuild Try.prog 55 parts = buildV [.int .i64 0, .int .i64 0] (fun i => ([(0, 1), (1, 1)] : List (Nat × Nat))[i]?) parts := ibuild_struct zr_55 Try.underlying55 (by kernel_rfl) parts
@[simp] theorem bd_74 (parts : List (Nat × Value)) : ibuild Try.prog 74 parts = buildV [.int .i64 0, .bool false, .slice none 0 0] (fun i => ([(0, 1), (1, 1), (2, 1)] : List (Nat × Nat))[i]?) parts := ibuild_struct zr_74 Try.underlying74 (by kernel_rfl) parts
@[simp] theorem bd_109 (parts : List (Nat × Value)) : ibuild Try.prog 109 parts = buildV [.string ⟨#[]⟩, .slice none 0 0] (fun i => ([(0, 1), (1, 1)] : List (Nat × Nat))[i]?) parts := ibuild_struct zr_109 Try.underlying109 (by kernel_rfl) parts
@[simp] theorem bd_110 (parts : List (Nat × Value)) : ibuild Try.prog 110 parts = buildV [.string ⟨#[]⟩, .slice none 0 0, .string ⟨#[]⟩, .slice none 0 0, .string ⟨#[]⟩, .slice none 0 0, .string ⟨#[]⟩, .slice none 0 0, .string ⟨#[]⟩, .slice none 0 0, .string ⟨#[]⟩, .slice none 0 0, .string ⟨#[]⟩, .slice none 0 0, .string ⟨#[]⟩, .slice none 0 0, .string ⟨#[]⟩, .slice none 0 0, .string ⟨#[]⟩, .slice none 0 0, .string ⟨#[]⟩, .slice none 0 0, .string ⟨#[]⟩, .slice none 0 0] (fun i => some (i * 2, 2)) parts := ibuild_array zr_110 Try.underlying110 sz_109 parts
@[simp] theorem bd_116 (parts : List (Nat × Value)) : ibuild Try.prog 116 parts = buildV [.string ⟨#[]⟩, .int .i64 0] (fun i => ([(0, 1), (1, 1)] : List (Nat × Nat))[i]?) parts := ibuild_struct zr_116 Try.underlying116 (by kernel_rfl) parts
@[simp] theorem bs_22 (h : Heap) (len : Nat) (parts : List (Nat × Value)) : ibuildSlice Try.prog h 22 len parts = bsV [.int .i64 0] 3 h len parts := ibuildSlice_of zr_3 Try.underlying22 len parts
@[simp] theorem bs_23 (h : Heap) (len : Nat) (parts : List (Nat × Value)) : ibuildSlice Try.prog h 23 len parts = bsV [.int .i64 0, .int .i64 0, .int .i64 0, .int .i64 0, .bool false, .bool false, .slice none 0 0, .slice none 0 0] 53 h len parts := ibuildSlice_of zr_53 Try.underlying23 len parts
@[simp] theorem bs_46 (h : Heap) (len : Nat) (parts : List (Nat × Value)) : ibuildSlice Try.prog h 46 len parts = bsV [.int .i64 0, .int .i64 0, .int .i64 0, .int .i64 0, .int .i64 0, .int .i64 0, .int .i64 0, .int .i64 0, .int .i64 0, .int .i64 0, .int .i64 0, .int .i64 0, .int .i64 0, .int .i64 0, .int .i64 0, .int .i64 0, .int .i64 0, .int .i64 0, .int .i64 0, .int .i64 0, .bool false, .bool false, .bool false] 45 h len parts := ibuildSlice_of zr_45 Try.underlying46 len parts
@[simp] theorem bs_51 (h : Heap) (len : Nat) (parts : List (Nat × Value)) : ibuildSlice Try.prog h 51 len parts = bsV [.int .i64 0, .int .i64 0] 55 h len parts := ibuildSlice_of zr_55 Try.underlying51 len parts
@[simp] theorem bs_56 (h : Heap) (len : Nat) (parts : List (Nat × Value)) : ibuildSlice Try.prog h 56 len parts = bsV [.int .i64 0, .bool false, .slice none 0 0] 74 h len parts := ibuildSlice_of zr_74 Try.underlying56 len parts
@[simp] theorem bs_66 (h : Heap) (len : Nat) (parts : List (Nat × Value)) : ibuildSlice Try.prog h 66 len parts = bsV [.string ⟨#[]⟩] 9 h len parts := ibuildSlice_of zr_9 Try.underlying66 len parts
@[simp] theorem bs_82 (h : Heap) (len : Nat) (parts : List (Nat × Value)) : ibuildSlice Try.prog h 82 len parts = bsV [.int .u8 0] 5 h len parts := ibuildSlice_of zr_5 Try.underlying82 len parts
@[simp] theorem bs_107 (h : Heap) (len : Nat) (parts : List (Nat × Value)) : ibuildSlice Try.prog h 107 len parts = bsV [.int .i64 0] 112 h len parts := ibuildSlice_of zr_112 Try.underlying107 len parts
@[simp] theorem bs_117 (h : Heap) (len : Nat) (parts : List (Nat × Value)) : ibuildSlice Try.prog h 117 len parts = bsV [.string ⟨#[]⟩, .int .i64 0] 116 h len parts := ibuildSlice_of zr_116 Try.underlying117 len parts
@[simp] theorem ia_22 (x i : Value) : iindexAddr Try.prog 22 x i = ixS 1 x i := iindexAddr_slice Try.underlying22 sz_3 x i
@[simp] theorem ia_23 (x i : Value) : iindexAddr Try.prog 23 x i = ixS 8 x i := iindexAddr_slice Try.underlying23 sz_53 x i
@[simp] theorem ia_35 (x i : Value) : iindexAddr Try.prog 35 x i = ixS 1 x i := iindexAddr_slice Try.underlying35 sz_3 x i
@[simp] theorem ia_46 (x i : Value) : iindexAddr Try.prog 46 x i = ixS 23 x i := iindexAddr_slice Try.underlying46 sz_45 x i
@[simp] theorem ia_51 (x i : Value) : iindexAddr Try.prog 51 x i = ixS 2 x i := iindexAddr_slice Try.underlying51 sz_55 x i
@[simp] theorem ia_56 (x i : Value) : iindexAddr Try.prog 56 x i = ixS 3 x i := iindexAddr_slice Try.underlying56 sz_74 x i
@[simp] theorem ia_66 (x i : Value) : iindexAddr Try.prog 66 x i = ixS 1 x i := iindexAddr_slice Try.underlying66 sz_9 x i
@[simp] theorem ia_92 (x i : Value) : iindexAddr Try.prog 92 x i = ixA 20 1 x i := iindexAddr_array Try.underlying92 sz_5 x i
@[simp] theorem ia_107 (x i : Value) : iindexAddr Try.prog 107 x i = ixS 1 x i := iindexAddr_slice Try.underlying107 sz_112 x i
@[simp] theorem ia_117 (x i : Value) : iindexAddr Try.prog 117 x i = ixS 2 x i := iindexAddr_slice Try.underlying117 sz_116 x i
@[simp] theorem cv_3_91 (k : IntKind) (n : Int) : iconvert Try.prog 3 91 (.int k n) = some (.int .u64 (IntKind.wrap .u64 n)) := iconvert_int Try.underlying3 Try.underlying91 k n
@[simp] theorem cv_3_127 (k : IntKind) (n : Int) : iconvert Try.prog 3 127 (.int k n) = some (.int .u64 (IntKind.wrap .u64 n)) := iconvert_int Try.underlying3 Try.underlying127 k n
@[simp] theorem cv_91_5 (k : IntKind) (n : Int) : iconvert Try.prog 91 5 (.int k n) = some (.int .u8 (IntKind.wrap .u8 n)) := iconvert_int Try.underlying91 Try.underlying5 k n
@[simp] theorem cv_127_3 (k : IntKind) (n : Int) : iconvert Try.prog 127 3 (.int k n) = some (.int .i64 (IntKind.wrap .i64 n)) := iconvert_int Try.underlying127 Try.underlying3 k n
@[simp] theorem eqs_22 (a : Option Addr) (n c : Nat) : ieq Try.prog 100 22 (.slice a n c) (.slice none 0 0) = some a.isNone := ieq_slice_nil Try.underlying22 a n c
@[simp] theorem eqp_81 (a : Addr) : ieq Try.prog 100 81 (.pointer (some a)) (.pointer none) = some false := ieq_ptr_nil Try.underlying81 a
@[simp] theorem eqn_81 (b : Option Addr) : ieq Try.prog 100 81 (.pointer none) (.pointer b) = some b.isNone := ieq_nil_ptr Try.underlying81 b
@[simp] theorem eqp_99 (a : Addr) : ieq Try.prog 100 99 (.pointer (some a)) (.pointer none) = some false := ieq_ptr_nil Try.underlying99 a
@[simp] theorem eqn_99 (b : Option Addr) : ieq Try.prog 100 99 (.pointer none) (.pointer b) = some b.isNone := ieq_nil_ptr Try.underlying99 b
theorem iz_3 : ((Try.prog).info? 3).bind (·.zero) = some (.int .i64 0) := by kernel_rfl
@[simp] theorem lk_71 (h : Heap) (x k : Value) (ok : Bool) : ilookup Try.prog h 71 x k ok = mapGet (.int .i64 0) h ok x k := by obtain ⟨i, hi, hz⟩ := Option.bind_eq_some_iff.1 iz_3; exact ilookup_of Try.underlying71 Try.underlying3 hi hz (by kernel_rfl) x k ok
@[simp] theorem mu_71 (h : Heap) (m k v : Value) : imapUpdate Try.prog h 71 m k v = mapPut h m k v := imapUpdate_of Try.underlying71 Try.underlying3 m k v
theorem app_22 (w0 : World) (h : Heap) (s x : Value) {G : IRes → Prop} (hg : Sat (appV w0 h 3 1 8 s x) G) : Sat (iappend Try.prog w0 h 22 22 s x) G := by obtain ⟨i, hi, hb⟩ := Option.map_eq_some_iff.1 by_3; exact Sat_app Try.underlying22 zr_3 rfl (by decide) sz_3 hi hb s x hg
theorem app_46 (w0 : World) (h : Heap) (s x : Value) {G : IRes → Prop} (hg : Sat (appV w0 h 45 23 168 s x) G) : Sat (iappend Try.prog w0 h 46 46 s x) G := by obtain ⟨i, hi, hb⟩ := Option.map_eq_some_iff.1 by_45; exact Sat_app Try.underlying46 zr_45 rfl (by decide) sz_45 hi hb s x hg
theorem app_56 (w0 : World) (h : Heap) (s x : Value) {G : IRes → Prop} (hg : Sat (appV w0 h 74 3 40 s x) G) : Sat (iappend Try.prog w0 h 56 56 s x) G := by obtain ⟨i, hi, hb⟩ := Option.map_eq_some_iff.1 by_74; exact Sat_app Try.underlying56 zr_74 rfl (by decide) sz_74 hi hb s x hg
theorem app_66 (w0 : World) (h : Heap) (s x : Value) {G : IRes → Prop} (hg : Sat (appV w0 h 9 1 16 s x) G) : Sat (iappend Try.prog w0 h 66 66 s x) G := by obtain ⟨i, hi, hb⟩ := Option.map_eq_some_iff.1 by_9; exact Sat_app Try.underlying66 zr_9 rfl (by decide) sz_9 hi hb s x hg
theorem app_82 (w0 : World) (h : Heap) (s x : Value) {G : IRes → Prop} (hg : Sat (appV w0 h 5 1 1 s x) G) : Sat (iappend Try.prog w0 h 82 82 s x) G := by obtain ⟨i, hi, hb⟩ := Option.map_eq_some_iff.1 by_5; exact Sat_app Try.underlying82 zr_5 rfl (by decide) sz_5 hi hb s x hg
@[simp] theorem mk_22 (h : Heap) (l c : Value) : imakeSlice Try.prog h 22 l c = mkS [.int .i64 0] 8 3 h l c := by obtain ⟨i, hi, hb⟩ := Option.map_eq_some_iff.1 by_3; exact imakeSlice_of Try.underlying22 zr_3 (by simp) hi hb l c
@[simp] theorem ln_107 (x : Value) : ilenB Try.prog 107 x = lenS x := ilenB_slice Try.underlying107 x
@[simp] theorem ln_117 (x : Value) : ilenB Try.prog 117 x = lenS x := ilenB_slice Try.underlying117 x
@[simp] theorem ln_22 (x : Value) : ilenB Try.prog 22 x = lenS x := ilenB_slice Try.underlying22 x
@[simp] theorem ln_23 (x : Value) : ilenB Try.prog 23 x = lenS x := ilenB_slice Try.underlying23 x
@[simp] theorem ln_35 (x : Value) : ilenB Try.prog 35 x = lenS x := ilenB_slice Try.underlying35 x
@[simp] theorem ln_46 (x : Value) : ilenB Try.prog 46 x = lenS x := ilenB_slice Try.underlying46 x
@[simp] theorem ln_51 (x : Value) : ilenB Try.prog 51 x = lenS x := ilenB_slice Try.underlying51 x
@[simp] theorem ln_56 (x : Value) : ilenB Try.prog 56 x = lenS x := ilenB_slice Try.underlying56 x
@[simp] theorem ln_66 (x : Value) : ilenB Try.prog 66 x = lenS x := ilenB_slice Try.underlying66 x
@[simp] theorem ln_82 (x : Value) : ilenB Try.prog 82 x = lenS x := ilenB_slice Try.underlying82 x
@[simp] theorem ln_9 (x : Value) : ilenB Try.prog 9 x = lenStr x := ilenB_string Try.underlying9 x
@[simp] theorem ic_2 (a b : Array Value) (l : List Value) : icall Try.prog (.func (.func 2) a b) l = some (.call 2 (a.toList ++ l ++ b.toList)) := icall_func (by kernel_rfl) a b l
@[simp] theorem ic_3 (a b : Array Value) (l : List Value) : icall Try.prog (.func (.func 3) a b) l = some (.call 3 (a.toList ++ l ++ b.toList)) := icall_func (by kernel_rfl) a b l
@[simp] theorem ic_4 (a b : Array Value) (l : List Value) : icall Try.prog (.func (.func 4) a b) l = some (.call 4 (a.toList ++ l ++ b.toList)) := icall_func (by kernel_rfl) a b l
@[simp] theorem ic_5 (a b : Array Value) (l : List Value) : icall Try.prog (.func (.func 5) a b) l = some (.call 5 (a.toList ++ l ++ b.toList)) := icall_func (by kernel_rfl) a b l
@[simp] theorem ic_6 (a b : Array Value) (l : List Value) : icall Try.prog (.func (.func 6) a b) l = some (.call 6 (a.toList ++ l ++ b.toList)) := icall_func (by kernel_rfl) a b l
@[simp] theorem ic_7 (a b : Array Value) (l : List Value) : icall Try.prog (.func (.func 7) a b) l = some (.call 7 (a.toList ++ l ++ b.toList)) := icall_func (by kernel_rfl) a b l
@[simp] theorem ic_8 (a b : Array Value) (l : List Value) : icall Try.prog (.func (.func 8) a b) l = some (.call 8 (a.toList ++ l ++ b.toList)) := icall_func (by kernel_rfl) a b l
@[simp] theorem ic_9 (a b : Array Value) (l : List Value) : icall Try.prog (.func (.func 9) a b) l = some (.call 9 (a.toList ++ l ++ b.toList)) := icall_func (by kernel_rfl) a b l
@[simp] theorem ic_10 (a b : Array Value) (l : List Value) : icall Try.prog (.func (.func 10) a b) l = some (.call 10 (a.toList ++ l ++ b.toList)) := icall_func (by kernel_rfl) a b l
@[simp] theorem ic_11 (a b : Array Value) (l : List Value) : icall Try.prog (.func (.func 11) a b) l = some (.call 11 (a.toList ++ l ++ b.toList)) := icall_func (by kernel_rfl) a b l
@[simp] theorem ic_12 (a b : Array Value) (l : List Value) : icall Try.prog (.func (.func 12) a b) l = some (.call 12 (a.toList ++ l ++ b.toList)) := icall_func (by kernel_rfl) a b l
@[simp] theorem ic_13 (a b : Array Value) (l : List Value) : icall Try.prog (.func (.func 13) a b) l = some (.call 13 (a.toList ++ l ++ b.toList)) := icall_func (by kernel_rfl) a b l
@[simp] theorem ic_14 (a b : Array Value) (l : List Value) : icall Try.prog (.func (.func 14) a b) l = some (.call 14 (a.toList ++ l ++ b.toList)) := icall_func (by kernel_rfl) a b l
@[simp] theorem ic_15 (a b : Array Value) (l : List Value) : icall Try.prog (.func (.func 15) a b) l = some (.call 15 (a.toList ++ l ++ b.toList)) := icall_func (by kernel_rfl) a b l
@[simp] theorem ic_16 (a b : Array Value) (l : List Value) : icall Try.prog (.func (.func 16) a b) l = some (.call 16 (a.toList ++ l ++ b.toList)) := icall_func (by kernel_rfl) a b l
@[simp] theorem ic_17 (a b : Array Value) (l : List Value) : icall Try.prog (.func (.func 17) a b) l = some (.call 17 (a.toList ++ l ++ b.toList)) := icall_func (by kernel_rfl) a b l
@[simp] theorem ic_18 (a b : Array Value) (l : List Value) : icall Try.prog (.func (.func 18) a b) l = some (.call 18 (a.toList ++ l ++ b.toList)) := icall_func (by kernel_rfl) a b l
@[simp] theorem ic_19 (a b : Array Value) (l : List Value) : icall Try.prog (.func (.func 19) a b) l = some (.call 19 (a.toList ++ l ++ b.toList)) := icall_func (by kernel_rfl) a b l
@[simp] theorem ic_20 (a b : Array Value) (l : List Value) : icall Try.prog (.func (.func 20) a b) l = some (.call 20 (a.toList ++ l ++ b.toList)) := icall_func (by kernel_rfl) a b l
@[simp] theorem ic_21 (a b : Array Value) (l : List Value) : icall Try.prog (.func (.func 21) a b) l = some (.call 21 (a.toList ++ l ++ b.toList)) := icall_func (by kernel_rfl) a b l
@[simp] theorem ic_22 (a b : Array Value) (l : List Value) : icall Try.prog (.func (.func 22) a b) l = some (.call 22 (a.toList ++ l ++ b.toList)) := icall_func (by kernel_rfl) a b l
@[simp] theorem ic_23 (a b : Array Value) (l : List Value) : icall Try.prog (.func (.func 23) a b) l = some (.call 23 (a.toList ++ l ++ b.toList)) := icall_func (by kernel_rfl) a b l
@[simp] theorem ic_24 (a b : Array Value) (l : List Value) : icall Try.prog (.func (.func 24) a b) l = some (.call 24 (a.toList ++ l ++ b.toList)) := icall_func (by kernel_rfl) a b l
@[simp] theorem ic_25 (a b : Array Value) (l : List Value) : icall Try.prog (.func (.func 25) a b) l = some (.call 25 (a.toList ++ l ++ b.toList)) := icall_func (by kernel_rfl) a b l
@[simp] theorem ic_26 (a b : Array Value) (l : List Value) : icall Try.prog (.func (.func 26) a b) l = some (.call 26 (a.toList ++ l ++ b.toList)) := icall_func (by kernel_rfl) a b l
@[simp] theorem ic_27 (a b : Array Value) (l : List Value) : icall Try.prog (.func (.func 27) a b) l = some (.call 27 (a.toList ++ l ++ b.toList)) := icall_func (by kernel_rfl) a b l
@[simp] theorem ic_28 (a b : Array Value) (l : List Value) : icall Try.prog (.func (.func 28) a b) l = some (.call 28 (a.toList ++ l ++ b.toList)) := icall_func (by kernel_rfl) a b l
@[simp] theorem ic_29 (a b : Array Value) (l : List Value) : icall Try.prog (.func (.func 29) a b) l = some (.call 29 (a.toList ++ l ++ b.toList)) := icall_func (by kernel_rfl) a b l
@[simp] theorem ic_30 (a b : Array Value) (l : List Value) : icall Try.prog (.func (.func 30) a b) l = some (.call 30 (a.toList ++ l ++ b.toList)) := icall_func (by kernel_rfl) a b l
@[simp] theorem ic_31 (a b : Array Value) (l : List Value) : icall Try.prog (.func (.func 31) a b) l = some (.call 31 (a.toList ++ l ++ b.toList)) := icall_func (by kernel_rfl) a b l
@[simp] theorem ic_32 (a b : Array Value) (l : List Value) : icall Try.prog (.func (.func 32) a b) l = some (.call 32 (a.toList ++ l ++ b.toList)) := icall_func (by kernel_rfl) a b l
@[simp] theorem ic_33 (a b : Array Value) (l : List Value) : icall Try.prog (.func (.func 33) a b) l = some (.call 33 (a.toList ++ l ++ b.toList)) := icall_func (by kernel_rfl) a b l
@[simp] theorem ic_34 (a b : Array Value) (l : List Value) : icall Try.prog (.func (.func 34) a b) l = some (.call 34 (a.toList ++ l ++ b.toList)) := icall_func (by kernel_rfl) a b l
@[simp] theorem ic_35 (a b : Array Value) (l : List Value) : icall Try.prog (.func (.func 35) a b) l = some (.call 35 (a.toList ++ l ++ b.toList)) := icall_func (by kernel_rfl) a b l
@[simp] theorem ic_36 (a b : Array Value) (l : List Value) : icall Try.prog (.func (.func 36) a b) l = some (.call 36 (a.toList ++ l ++ b.toList)) := icall_func (by kernel_rfl) a b l
@[simp] theorem ic_37 (a b : Array Value) (l : List Value) : icall Try.prog (.func (.func 37) a b) l = some (.call 37 (a.toList ++ l ++ b.toList)) := icall_func (by kernel_rfl) a b l
@[simp] theorem ic_38 (a b : Array Value) (l : List Value) : icall Try.prog (.func (.func 38) a b) l = some (.call 38 (a.toList ++ l ++ b.toList)) := icall_func (by kernel_rfl) a b l
@[simp] theorem ic_39 (a b : Array Value) (l : List Value) : icall Try.prog (.func (.func 39) a b) l = some (.call 39 (a.toList ++ l ++ b.toList)) := icall_func (by kernel_rfl) a b l
@[simp] theorem ic_40 (a b : Array Value) (l : List Value) : icall Try.prog (.func (.func 40) a b) l = some (.call 40 (a.toList ++ l ++ b.toList)) := icall_func (by kernel_rfl) a b l
@[simp] theorem ic_41 (a b : Array Value) (l : List Value) : icall Try.prog (.func (.func 41) a b) l = some (.call 41 (a.toList ++ l ++ b.toList)) := icall_func (by kernel_rfl) a b l
@[simp] theorem ic_42 (a b : Array Value) (l : List Value) : icall Try.prog (.func (.func 42) a b) l = some (.call 42 (a.toList ++ l ++ b.toList)) := icall_func (by kernel_rfl) a b l
@[simp] theorem ic_43 (a b : Array Value) (l : List Value) : icall Try.prog (.func (.func 43) a b) l = some (.call 43 (a.toList ++ l ++ b.toList)) := icall_func (by kernel_rfl) a b l
@[simp] theorem ic_44 (a b : Array Value) (l : List Value) : icall Try.prog (.func (.func 44) a b) l = some (.call 44 (a.toList ++ l ++ b.toList)) := icall_func (by kernel_rfl) a b l
@[simp] theorem ic_45 (a b : Array Value) (l : List Value) : icall Try.prog (.func (.func 45) a b) l = some (.call 45 (a.toList ++ l ++ b.toList)) := icall_func (by kernel_rfl) a b l
@[simp] theorem ic_46 (a b : Array Value) (l : List Value) : icall Try.prog (.func (.func 46) a b) l = some (.call 46 (a.toList ++ l ++ b.toList)) := icall_func (by kernel_rfl) a b l
@[simp] theorem ic_47 (a b : Array Value) (l : List Value) : icall Try.prog (.func (.func 47) a b) l = some (.call 47 (a.toList ++ l ++ b.toList)) := icall_func (by kernel_rfl) a b l
@[simp] theorem ic_48 (a b : Array Value) (l : List Value) : icall Try.prog (.func (.func 48) a b) l = some (.call 48 (a.toList ++ l ++ b.toList)) := icall_func (by kernel_rfl) a b l
@[simp] theorem ic_49 (a b : Array Value) (l : List Value) : icall Try.prog (.func (.func 49) a b) l = some (.call 49 (a.toList ++ l ++ b.toList)) := icall_func (by kernel_rfl) a b l
@[simp] theorem ic_50 (a b : Array Value) (l : List Value) : icall Try.prog (.func (.func 50) a b) l = some (.call 50 (a.toList ++ l ++ b.toList)) := icall_func (by kernel_rfl) a b l
@[simp] theorem ic_51 (a b : Array Value) (l : List Value) : icall Try.prog (.func (.func 51) a b) l = some (.call 51 (a.toList ++ l ++ b.toList)) := icall_func (by kernel_rfl) a b l
@[simp] theorem ic_52 (a b : Array Value) (l : List Value) : icall Try.prog (.func (.func 52) a b) l = some (.call 52 (a.toList ++ l ++ b.toList)) := icall_func (by kernel_rfl) a b l
@[simp] theorem ic_53 (a b : Array Value) (l : List Value) : icall Try.prog (.func (.func 53) a b) l = some (.call 53 (a.toList ++ l ++ b.toList)) := icall_func (by kernel_rfl) a b l
@[simp] theorem ic_54 (a b : Array Value) (l : List Value) : icall Try.prog (.func (.func 54) a b) l = some (.call 54 (a.toList ++ l ++ b.toList)) := icall_func (by kernel_rfl) a b l
@[simp] theorem ic_55 (a b : Array Value) (l : List Value) : icall Try.prog (.func (.func 55) a b) l = some (.call 55 (a.toList ++ l ++ b.toList)) := icall_func (by kernel_rfl) a b l
@[simp] theorem ic_56 (a b : Array Value) (l : List Value) : icall Try.prog (.func (.func 56) a b) l = some (.call 56 (a.toList ++ l ++ b.toList)) := icall_func (by kernel_rfl) a b l
@[simp] theorem ic_57 (a b : Array Value) (l : List Value) : icall Try.prog (.func (.func 57) a b) l = some (.call 57 (a.toList ++ l ++ b.toList)) := icall_func (by kernel_rfl) a b l
@[simp] theorem ic_58 (a b : Array Value) (l : List Value) : icall Try.prog (.func (.func 58) a b) l = some (.call 58 (a.toList ++ l ++ b.toList)) := icall_func (by kernel_rfl) a b l
@[simp] theorem ic_59 (a b : Array Value) (l : List Value) : icall Try.prog (.func (.func 59) a b) l = some (.call 59 (a.toList ++ l ++ b.toList)) := icall_func (by kernel_rfl) a b l
@[simp] theorem ic_60 (a b : Array Value) (l : List Value) : icall Try.prog (.func (.func 60) a b) l = some (.call 60 (a.toList ++ l ++ b.toList)) := icall_func (by kernel_rfl) a b l
@[simp] theorem ic_61 (a b : Array Value) (l : List Value) : icall Try.prog (.func (.func 61) a b) l = some (.call 61 (a.toList ++ l ++ b.toList)) := icall_func (by kernel_rfl) a b l
@[simp] theorem ic_62 (a b : Array Value) (l : List Value) : icall Try.prog (.func (.func 62) a b) l = some (.call 62 (a.toList ++ l ++ b.toList)) := icall_func (by kernel_rfl) a b l
@[simp] theorem ic_63 (a b : Array Value) (l : List Value) : icall Try.prog (.func (.func 63) a b) l = some (.call 63 (a.toList ++ l ++ b.toList)) := icall_func (by kernel_rfl) a b l
@[simp] theorem ic_64 (a b : Array Value) (l : List Value) : icall Try.prog (.func (.func 64) a b) l = some (.call 64 (a.toList ++ l ++ b.toList)) := icall_func (by kernel_rfl) a b l
@[simp] theorem ic_65 (a b : Array Value) (l : List Value) : icall Try.prog (.func (.func 65) a b) l = some (.call 65 (a.toList ++ l ++ b.toList)) := icall_func (by kernel_rfl) a b l
@[simp] theorem ic_66 (a b : Array Value) (l : List Value) : icall Try.prog (.func (.func 66) a b) l = some (.call 66 (a.toList ++ l ++ b.toList)) := icall_func (by kernel_rfl) a b l
@[simp] theorem ic_67 (a b : Array Value) (l : List Value) : icall Try.prog (.func (.func 67) a b) l = some (.call 67 (a.toList ++ l ++ b.toList)) := icall_func (by kernel_rfl) a b l
@[simp] theorem ic_68 (a b : Array Value) (l : List Value) : icall Try.prog (.func (.func 68) a b) l = some (.call 68 (a.toList ++ l ++ b.toList)) := icall_func (by kernel_rfl) a b l
@[simp] theorem ic_69 (a b : Array Value) (l : List Value) : icall Try.prog (.func (.func 69) a b) l = some (.call 69 (a.toList ++ l ++ b.toList)) := icall_func (by kernel_rfl) a b l
@[simp] theorem ic_70 (a b : Array Value) (l : List Value) : icall Try.prog (.func (.func 70) a b) l = some (.call 70 (a.toList ++ l ++ b.toList)) := icall_func (by kernel_rfl) a b l
@[simp] theorem ic_73 (a b : Array Value) (l : List Value) : icall Try.prog (.func (.func 73) a b) l = some (.call 73 (a.toList ++ l ++ b.toList)) := icall_func (by kernel_rfl) a b l
@[simp] theorem ic_74 (a b : Array Value) (l : List Value) : icall Try.prog (.func (.func 74) a b) l = some (.call 74 (a.toList ++ l ++ b.toList)) := icall_func (by kernel_rfl) a b l
end Go.Proofs.Ytlifcjggdandnaa
