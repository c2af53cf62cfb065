/- The light forms of this seat's functions. Printed by c2.py. -/
import Derived.Test.YtlifcjggdandnaaE32
import Derived.Test.YtlifcjggdandnaaRows
import Derived.KernelRfl
namespace Go.Proofs.Ytlifcjggdandnaa
open Go Go.Ideal
set_option maxRecDepth 100000
def code_3 : C2 :=
  .seq (.ops [⟨some 4, .assign (.const (.bool false)), none⟩])
  (.seq (.seq (.ops [⟨some 5, .move (.tmp 0), none⟩,
    ⟨some 6, .move (.tmp 1), none⟩,
    ⟨some 7, .call ⟨.value (.func 6), #[(.tmp 5), (.tmp 6)], #[22, 23]⟩, none⟩])
  (.cond (.tmp 7) (.seq (.ops [⟨some 8, .call ⟨.value (.func 7), #[], #[]⟩, none⟩,
      ⟨some 4, .assign (.tmp 8), none⟩])
    (.ret))
    (.skip)))
  (.seq (.ops [⟨some 9, .move (.tmp 0), none⟩,
    ⟨some 10, .move (.tmp 1), none⟩,
    ⟨some 11, .call ⟨.value (.func 8), #[(.tmp 9), (.tmp 10)], #[22, 23]⟩, none⟩,
    ⟨some 12, .move (.tmp 0), none⟩,
    ⟨some 13, .move (.tmp 1), none⟩,
    ⟨some 14, .call ⟨.value (.func 9), #[(.tmp 12), (.tmp 13)], #[22, 23]⟩, none⟩,
    ⟨some 15, .binOp .eql 3 (.tmp 11) (.tmp 14) 3, none⟩,
    ⟨some 16, .move (.tmp 15), none⟩,
    ⟨some 17, .call ⟨.value (.func 7), #[], #[]⟩, some (16, true)⟩,
    ⟨some 18, .pick (.tmp 16) (.tmp 17) (.const (.bool false)), none⟩,
    ⟨some 4, .assign (.tmp 18), none⟩])
  (.ret)))
theorem cmp_3 : Cmp Try.prog 3 19 code_3 [.tmp 4] := Cmp.of [] Try.func3 rfl rfl (by kernel_rfl) rfl
def code_4 : C2 :=
  .seq (.ops [⟨some 6, .assign (.const (.bool false)), none⟩])
  (.seq (.seq (.ops [⟨some 15, .move (.tmp 0), none⟩,
    ⟨some 16, .move (.tmp 1), none⟩,
    ⟨some 17, .call ⟨.value (.func 6), #[(.tmp 15), (.tmp 16)], #[22, 23]⟩, none⟩])
  (.cond (.tmp 17) (.seq (.ops [⟨some 18, .call ⟨.value (.func 7), #[], #[]⟩, none⟩,
      ⟨some 6, .assign (.tmp 18), none⟩])
    (.ret))
    (.skip)))
  (.seq (.ops [⟨some 20, .move (.tmp 0), none⟩,
    ⟨some 21, .move (.tmp 1), none⟩,
    ⟨some 22, .move (.tmp 2), none⟩,
    ⟨some 23, .call ⟨.value (.func 10), #[(.tmp 20), (.tmp 21), (.tmp 22)], #[22, 23, 3]⟩, none⟩,
    ⟨some 19, .move (.tmp 23), none⟩,
    ⟨some 24, .extract (.tmp 19) 0, none⟩,
    ⟨some 25, .extract (.tmp 19) 1, none⟩,
    ⟨some 7, .assign (.tmp 24), none⟩,
    ⟨some 8, .assign (.tmp 25), none⟩])
  (.seq (.ops [⟨some 27, .move (.tmp 0), none⟩,
    ⟨some 28, .move (.tmp 1), none⟩,
    ⟨some 29, .move (.tmp 2), none⟩,
    ⟨some 30, .call ⟨.value (.func 11), #[(.tmp 27), (.tmp 28), (.tmp 29)], #[22, 23, 3]⟩, none⟩,
    ⟨some 26, .move (.tmp 30), none⟩,
    ⟨some 31, .extract (.tmp 26) 0, none⟩,
    ⟨some 32, .extract (.tmp 26) 1, none⟩,
    ⟨some 9, .assign (.tmp 31), none⟩,
    ⟨some 10, .assign (.tmp 32), none⟩])
  (.seq (.ops [⟨some 34, .move (.tmp 0), none⟩,
    ⟨some 35, .move (.tmp 1), none⟩,
    ⟨some 36, .call ⟨.value (.func 12), #[(.tmp 34), (.tmp 35)], #[22, 23]⟩, none⟩,
    ⟨some 33, .move (.tmp 36), none⟩,
    ⟨some 37, .extract (.tmp 33) 0, none⟩,
    ⟨some 38, .extract (.tmp 33) 1, none⟩,
    ⟨some 11, .assign (.tmp 37), none⟩,
    ⟨some 12, .assign (.tmp 38), none⟩])
  (.seq (.ops [⟨some 40, .move (.tmp 0), none⟩,
    ⟨some 41, .move (.tmp 1), none⟩,
    ⟨some 42, .call ⟨.value (.func 13), #[(.tmp 40), (.tmp 41)], #[22, 23]⟩, none⟩,
    ⟨some 39, .move (.tmp 42), none⟩,
    ⟨some 43, .extract (.tmp 39) 0, none⟩,
    ⟨some 44, .extract (.tmp 39) 1, none⟩,
    ⟨some 13, .assign (.tmp 43), none⟩,
    ⟨some 14, .assign (.tmp 44), none⟩])
  (.seq (.ops [⟨some 45, .move (.tmp 7), none⟩,
    ⟨some 46, .move (.tmp 9), none⟩,
    ⟨some 47, .call ⟨.value (.func 14), #[(.tmp 45), (.tmp 46)], #[35, 22]⟩, none⟩,
    ⟨some 48, .move (.tmp 47), none⟩,
    ⟨some 49, .move (.tmp 8), some (48, true)⟩,
    ⟨some 50, .move (.tmp 10), some (48, true)⟩,
    ⟨some 51, .binOp .eql 3 (.tmp 49) (.tmp 50) 3, some (48, true)⟩,
    ⟨some 52, .pick (.tmp 48) (.tmp 51) (.const (.bool false)), none⟩,
    ⟨some 53, .move (.tmp 52), none⟩,
    ⟨some 54, .move (.tmp 11), some (53, true)⟩,
    ⟨some 55, .move (.tmp 13), some (53, true)⟩,
    ⟨some 56, .call ⟨.value (.func 14), #[(.tmp 54), (.tmp 55)], #[35, 22]⟩, some (53, true)⟩,
    ⟨some 57, .pick (.tmp 53) (.tmp 56) (.const (.bool false)), none⟩,
    ⟨some 58, .move (.tmp 57), none⟩,
    ⟨some 59, .move (.tmp 12), some (58, true)⟩,
    ⟨some 60, .move (.tmp 14), some (58, true)⟩,
    ⟨some 61, .binOp .eql 3 (.tmp 59) (.tmp 60) 3, some (58, true)⟩,
    ⟨some 62, .pick (.tmp 58) (.tmp 61) (.const (.bool false)), none⟩,
    ⟨some 63, .move (.tmp 62), none⟩,
    ⟨some 64, .call ⟨.value (.func 7), #[], #[]⟩, some (63, true)⟩,
    ⟨some 65, .pick (.tmp 63) (.tmp 64) (.const (.bool false)), none⟩,
    ⟨some 6, .assign (.tmp 65), none⟩])
  (.ret)))))))
theorem cmp_4 : Cmp Try.prog 4 66 code_4 [.tmp 6] := Cmp.of [] Try.func4 rfl rfl (by kernel_rfl) rfl
def code_6 : C2 :=
  .seq (.ops [⟨some 4, .assign (.const (.bool false)), none⟩])
  (.seq (.seq (.ops [⟨some 6, .move (.tmp 0), none⟩,
    ⟨some 7, .call ⟨.builtin .len, #[(.tmp 6)], #[22]⟩, none⟩,
    ⟨some 8, .binOp .gtr 3 (.tmp 7) (.const (.int .i64 (300))) 3, none⟩,
    ⟨some 9, .move (.tmp 8), none⟩,
    ⟨some 10, .move (.tmp 1), some (9, false)⟩,
    ⟨some 11, .call ⟨.builtin .len, #[(.tmp 10)], #[23]⟩, some (9, false)⟩,
    ⟨some 12, .binOp .gtr 3 (.tmp 11) (.const (.int .i64 (40))) 3, some (9, false)⟩,
    ⟨some 13, .pick (.tmp 9) (.const (.bool true)) (.tmp 12), none⟩])
  (.cond (.tmp 13) (.seq (.ops [⟨some 4, .assign (.const (.bool true)), none⟩])
    (.ret))
    (.skip)))
  (.seq (.seq (.ops [⟨some 5, .assign (.const (.int .i64 (0))), none⟩])
  (.block 0 (.loop (.seq (.seq (.ops [⟨some 14, .move (.tmp 5), none⟩,
        ⟨some 15, .move (.tmp 1), none⟩,
        ⟨some 16, .call ⟨.builtin .len, #[(.tmp 15)], #[23]⟩, none⟩,
        ⟨some 17, .binOp .lss 3 (.tmp 14) (.tmp 16) 3, none⟩])
      (.cond (.tmp 17) (.skip)
        (.exit 0)))
      (.seq (.block 1 (.seq (.drawn [⟨some 20, .move (.tmp 1), none⟩,
          ⟨some 21, .move (.tmp 5), none⟩,
          ⟨some 22, .indexAddr 23 (.tmp 20) (.tmp 21), none⟩,
          ⟨some 23, .fieldAddr 53 (.tmp 22) 6, none⟩,
          ⟨some 24, .load 51 (.tmp 23), none⟩,
          ⟨some 25, .call ⟨.builtin .len, #[(.tmp 24)], #[51]⟩, none⟩,
          ⟨some 26, .move (.tmp 1), none⟩,
          ⟨some 27, .move (.tmp 5), none⟩,
          ⟨some 28, .indexAddr 23 (.tmp 26) (.tmp 27), none⟩,
          ⟨some 29, .fieldAddr 53 (.tmp 28) 7, none⟩,
          ⟨some 30, .load 51 (.tmp 29), none⟩,
          ⟨some 31, .call ⟨.builtin .len, #[(.tmp 30)], #[51]⟩, none⟩,
          ⟨some 32, .binOp .add 3 (.tmp 25) (.tmp 31) 3, none⟩,
          ⟨some 33, .binOp .gtr 3 (.tmp 32) (.const (.int .i64 (100))) 3, none⟩])
        (.cond (.tmp 33) (.seq (.ops [⟨some 4, .assign (.const (.bool true)), none⟩])
          (.ret))
          (.skip))))
      (.ops [⟨some 18, .move (.tmp 5), none⟩,
        ⟨some 19, .binOp .add 3 (.tmp 18) (.const (.int .i64 (1))) 3, none⟩,
        ⟨some 5, .assign (.tmp 19), none⟩]))))))
  (.seq (.ops [⟨some 4, .assign (.const (.bool false)), none⟩])
  (.ret))))
theorem cmp_6 : Cmp Try.prog 6 34 code_6 [.tmp 4] := Cmp.of [] Try.func6 rfl rfl (by kernel_rfl) rfl
def hand_8_7 : Array Oper := #[{ dst := some 20, op := Go.Op.fieldAddr 53 (Go.Operand.tmp 7) 6, type := 0,
                                            pos := "opaque.go:119", after := #[], guard := none },
                                          { dst := some 21, op := Go.Op.load 51 (Go.Operand.tmp 20), type := 51,
                                            pos := "opaque.go:119", after := #[{ on := 0, ground := Go.Ground.data }],
                                            guard := none },
                                          { dst := some 22,
                                            op :=
                                              Go.Op.call
                                                { callee := Go.Callee.builtin Go.Builtin.len,
                                                  args := #[Go.Operand.tmp 21], argTypes := #[51] },
                                            type := 3, pos := "opaque.go:119",
                                            after := #[{ on := 1, ground := Go.Ground.data }], guard := none },
                                          { dst := some 23,
                                            op :=
                                              Go.Op.binOp Go.BinOp.gtr 3 (Go.Operand.tmp 22)
                                                (Go.Operand.const (Go.Value.int Go.IntKind.i64 0)) 3,
                                            type := 4, pos := "opaque.go:119",
                                            after := #[{ on := 2, ground := Go.Ground.data }], guard := none },
                                          { dst := some 24, op := Go.Op.move (Go.Operand.tmp 23), type := 4,
                                            pos := "opaque.go:119", after := #[{ on := 3, ground := Go.Ground.data }],
                                            guard := none },
                                          { dst := some 25, op := Go.Op.move (Go.Operand.tmp 0), type := 22,
                                            pos := "opaque.go:119", after := #[{ on := 4, ground := Go.Ground.guard }],
                                            guard := some (4, true) },
                                          { dst := some 26, op := Go.Op.move (Go.Operand.tmp 5), type := 56,
                                            pos := "opaque.go:119", after := #[{ on := 4, ground := Go.Ground.guard }],
                                            guard := some (4, true) },
                                          { dst := some 27,
                                            op := Go.Op.makeFunc (Go.Fn.func 25) #[] #[Go.Operand.tmp 7], type := 60,
                                            pos := "opaque.go:119", after := #[{ on := 4, ground := Go.Ground.guard }],
                                            guard := some (4, true) },
                                          { dst := some 28,
                                            op :=
                                              Go.Op.call
                                                { callee := Go.Callee.value (Go.Operand.func 24),
                                                  args := #[Go.Operand.tmp 25, Go.Operand.tmp 26, Go.Operand.tmp 27],
                                                  argTypes := #[22, 56, 60] },
                                            type := 22, pos := "opaque.go:119",
                                            after :=
                                              #[{ on := 5, ground := Go.Ground.data },
                                                { on := 6, ground := Go.Ground.data },
                                                { on := 7, ground := Go.Ground.data },
                                                { on := 4, ground := Go.Ground.chain },
                                                { on := 4, ground := Go.Ground.guard }],
                                            guard := some (4, true) },
                                          { dst := some 29, op := Go.Op.fieldAddr 53 (Go.Operand.tmp 7) 6, type := 0,
                                            pos := "opaque.go:119", after := #[{ on := 4, ground := Go.Ground.guard }],
                                            guard := some (4, true) },
                                          { dst := some 30, op := Go.Op.load 51 (Go.Operand.tmp 29), type := 51,
                                            pos := "opaque.go:119",
                                            after :=
                                              #[{ on := 9, ground := Go.Ground.data },
                                                { on := 4, ground := Go.Ground.guard }],
                                            guard := some (4, true) },
                                          { dst := some 31,
                                            op :=
                                              Go.Op.call
                                                { callee := Go.Callee.value (Go.Operand.func 23),
                                                  args := #[Go.Operand.tmp 28, Go.Operand.tmp 30],
                                                  argTypes := #[22, 51] },
                                            type := 4, pos := "opaque.go:119",
                                            after :=
                                              #[{ on := 8, ground := Go.Ground.data },
                                                { on := 10, ground := Go.Ground.data },
                                                { on := 8, ground := Go.Ground.chain },
                                                { on := 4, ground := Go.Ground.guard }],
                                            guard := some (4, true) },
                                          { dst := some 32, op := Go.Op.unOp Go.UnOp.not 4 (Go.Operand.tmp 31),
                                            type := 4, pos := "opaque.go:119",
                                            after :=
                                              #[{ on := 11, ground := Go.Ground.data },
                                                { on := 4, ground := Go.Ground.guard }],
                                            guard := some (4, true) },
                                          { dst := some 33,
                                            op :=
                                              Go.Op.pick (Go.Operand.tmp 24) (Go.Operand.tmp 32)
                                                (Go.Operand.const (Go.Value.bool false)),
                                            type := 4, pos := "opaque.go:119",
                                            after :=
                                              #[{ on := 4, ground := Go.Ground.data },
                                                { on := 12, ground := Go.Ground.data }],
                                            guard := none }]
def light_8_7 : List O2 :=
  [⟨some 20, .fieldAddr 53 (.tmp 7) 6, none⟩,
  ⟨some 21, .load 51 (.tmp 20), none⟩,
  ⟨some 22, .call ⟨.builtin .len, #[(.tmp 21)], #[51]⟩, none⟩,
  ⟨some 23, .binOp .gtr 3 (.tmp 22) (.const (.int .i64 (0))) 3, none⟩,
  ⟨some 24, .move (.tmp 23), none⟩,
  ⟨some 25, .move (.tmp 0), some (24, true)⟩,
  ⟨some 26, .move (.tmp 5), some (24, true)⟩,
  ⟨some 27, .makeFunc (.func 25) #[] #[(.tmp 7)], some (24, true)⟩,
  ⟨some 28, .call ⟨.value (.func 24), #[(.tmp 25), (.tmp 26), (.tmp 27)], #[22, 56, 60]⟩, some (24, true)⟩,
  ⟨some 29, .fieldAddr 53 (.tmp 7) 6, some (24, true)⟩,
  ⟨some 30, .load 51 (.tmp 29), some (24, true)⟩,
  ⟨some 31, .call ⟨.value (.func 23), #[(.tmp 28), (.tmp 30)], #[22, 51]⟩, some (24, true)⟩,
  ⟨some 32, .unOp .not 4 (.tmp 31), some (24, true)⟩,
  ⟨some 33, .pick (.tmp 24) (.tmp 32) (.const (.bool false)), none⟩]
theorem lit_8_7 : oconv hand_8_7 hand_8_7.toList = some light_8_7 := by kernel_rfl
theorem ops_8_7 : openPairs hand_8_7.toList = [(8, 10)] := by kernel_rfl
def code_8 : C2 :=
  .seq (.ops [⟨some 4, .assign (.const (.int .i64 (0))), none⟩])
  (.seq (.seq (.ops [⟨some 8, .move (.tmp 0), none⟩,
    ⟨some 9, .move (.tmp 1), none⟩,
    ⟨some 10, .call ⟨.value (.func 21), #[(.tmp 8), (.tmp 9)], #[22, 23]⟩, none⟩,
    ⟨some 11, .unOp .not 4 (.tmp 10), none⟩])
  (.cond (.tmp 11) (.seq (.ops [⟨some 4, .assign (.const (.int .i64 (2))), none⟩])
    (.ret))
    (.skip)))
  (.seq (.ops [⟨some 12, .move (.tmp 1), none⟩,
    ⟨some 13, .call ⟨.value (.func 22), #[(.tmp 12)], #[23]⟩, none⟩,
    ⟨some 5, .assign (.tmp 13), none⟩])
  (.seq (.seq (.ops [⟨some 14, .move (.tmp 1), none⟩,
    ⟨some 15, .call ⟨.builtin .len, #[(.tmp 14)], #[23]⟩, none⟩,
    ⟨some 16, .move (.const (.int .i64 (0))), none⟩])
  (.block 0 (.loop (.seq (.ops [⟨some 17, .binOp .lss 3 (.tmp 16) (.tmp 15) 3, none⟩])
      (.seq (.cond (.tmp 17) (.skip)
        (.exit 0))
      (.seq (.block 1 (.seq (.ops [⟨some 18, .indexAddr 23 (.tmp 14) (.tmp 16), none⟩,
          ⟨some 19, .load 53 (.tmp 18), none⟩,
          ⟨some 7, .alloc 53, none⟩,
          ⟨none, .store 53 (.tmp 7) (.tmp 19), none⟩])
        (.seq (.hand hand_8_7)
        (.cond (.tmp 33) (.seq (.ops [⟨some 4, .assign (.const (.int .i64 (19))), none⟩])
          (.ret))
          (.skip)))))
      (.ops [⟨some 34, .binOp .add 3 (.tmp 16) (.const (.int .i64 (1))) 3, none⟩,
        ⟨some 16, .move (.tmp 34), none⟩])))))))
  (.seq (.ops [⟨some 4, .assign (.const (.int .i64 (0))), none⟩])
  (.ret)))))
theorem cmp_8 : Cmp Try.prog 8 35 code_8 [.tmp 4] := Cmp.of [7] Try.func8 rfl rfl (by kernel_rfl) rfl
def code_9 : C2 :=
  .seq (.ops [⟨some 4, .assign (.const (.int .i64 (0))), none⟩])
  (.seq (.seq (.ops [⟨some 9, .move (.tmp 0), none⟩,
    ⟨some 10, .move (.tmp 1), none⟩,
    ⟨some 11, .call ⟨.value (.func 26), #[(.tmp 9), (.tmp 10)], #[22, 23]⟩, none⟩,
    ⟨some 12, .unOp .not 4 (.tmp 11), none⟩])
  (.cond (.tmp 12) (.seq (.ops [⟨some 4, .assign (.const (.int .i64 (2))), none⟩])
    (.ret))
    (.skip)))
  (.seq (.seq (.ops [⟨some 5, .assign (.const (.int .i64 (0))), none⟩])
  (.block 0 (.loop (.seq (.seq (.ops [⟨some 13, .move (.tmp 5), none⟩,
        ⟨some 14, .move (.tmp 1), none⟩,
        ⟨some 15, .call ⟨.builtin .len, #[(.tmp 14)], #[23]⟩, none⟩,
        ⟨some 16, .binOp .lss 3 (.tmp 13) (.tmp 15) 3, none⟩])
      (.cond (.tmp 16) (.skip)
        (.exit 0)))
      (.seq (.block 1 (.seq (.seq (.ops [⟨some 19, .move (.tmp 1), none⟩,
          ⟨some 20, .move (.tmp 5), none⟩,
          ⟨some 21, .indexAddr 23 (.tmp 19) (.tmp 20), none⟩,
          ⟨some 22, .fieldAddr 53 (.tmp 21) 6, none⟩,
          ⟨some 23, .load 51 (.tmp 22), none⟩,
          ⟨some 24, .call ⟨.builtin .len, #[(.tmp 23)], #[51]⟩, none⟩,
          ⟨some 25, .binOp .eql 3 (.tmp 24) (.const (.int .i64 (0))) 3, none⟩])
        (.cond (.tmp 25) (.exit 1)
          (.skip)))
        (.seq (.ops [⟨some 26, .move (.tmp 0), none⟩,
          ⟨some 27, .move (.tmp 1), none⟩,
          ⟨some 28, .move (.tmp 1), none⟩,
          ⟨some 29, .move (.tmp 5), none⟩,
          ⟨some 30, .indexAddr 23 (.tmp 28) (.tmp 29), none⟩,
          ⟨some 31, .fieldAddr 53 (.tmp 30) 2, none⟩,
          ⟨some 32, .load 3 (.tmp 31), none⟩,
          ⟨some 33, .call ⟨.value (.func 27), #[(.tmp 26), (.tmp 27), (.tmp 32), (.const (.bool false))], #[22, 23, 3, 4]⟩, none⟩,
          ⟨some 6, .assign (.tmp 33), none⟩])
        (.seq (.ops [⟨some 7, .assign (.const (.int .i64 (0))), none⟩])
        (.block 2 (.loop (.seq (.seq (.ops [⟨some 34, .move (.tmp 7), none⟩,
              ⟨some 35, .move (.tmp 1), none⟩,
              ⟨some 36, .move (.tmp 5), none⟩,
              ⟨some 37, .indexAddr 23 (.tmp 35) (.tmp 36), none⟩,
              ⟨some 38, .fieldAddr 53 (.tmp 37) 6, none⟩,
              ⟨some 39, .load 51 (.tmp 38), none⟩,
              ⟨some 40, .call ⟨.builtin .len, #[(.tmp 39)], #[51]⟩, none⟩,
              ⟨some 41, .binOp .lss 3 (.tmp 34) (.tmp 40) 3, none⟩])
            (.cond (.tmp 41) (.skip)
              (.exit 2)))
            (.seq (.block 3 (.seq (.ops [⟨some 44, .move (.tmp 1), none⟩,
                ⟨some 45, .move (.tmp 5), none⟩,
                ⟨some 46, .indexAddr 23 (.tmp 44) (.tmp 45), none⟩,
                ⟨some 47, .fieldAddr 53 (.tmp 46) 6, none⟩,
                ⟨some 48, .load 51 (.tmp 47), none⟩,
                ⟨some 49, .move (.tmp 7), none⟩,
                ⟨some 50, .indexAddr 51 (.tmp 48) (.tmp 49), none⟩,
                ⟨some 51, .load 55 (.tmp 50), none⟩,
                ⟨some 8, .alloc 55, none⟩,
                ⟨none, .store 55 (.tmp 8) (.tmp 51), none⟩])
              (.seq (.drawn [⟨some 52, .fieldAddr 55 (.tmp 8) 0, none⟩,
                ⟨some 53, .load 3 (.tmp 52), none⟩,
                ⟨some 54, .binOp .lss 3 (.tmp 53) (.const (.int .i64 (0))) 3, none⟩,
                ⟨some 55, .move (.tmp 54), none⟩,
                ⟨some 56, .fieldAddr 55 (.tmp 8) 0, some (55, false)⟩,
                ⟨some 57, .load 3 (.tmp 56), some (55, false)⟩,
                ⟨some 58, .move (.tmp 6), some (55, false)⟩,
                ⟨some 59, .call ⟨.builtin .len, #[(.tmp 58)], #[22]⟩, some (55, false)⟩,
                ⟨some 60, .binOp .geq 3 (.tmp 57) (.tmp 59) 3, some (55, false)⟩,
                ⟨some 61, .pick (.tmp 55) (.const (.bool true)) (.tmp 60), none⟩,
                ⟨some 62, .move (.tmp 61), none⟩,
                ⟨some 63, .move (.tmp 6), some (62, false)⟩,
                ⟨some 64, .fieldAddr 55 (.tmp 8) 0, some (62, false)⟩,
                ⟨some 65, .load 3 (.tmp 64), some (62, false)⟩,
                ⟨some 66, .indexAddr 22 (.tmp 63) (.tmp 65), some (62, false)⟩,
                ⟨some 67, .load 3 (.tmp 66), some (62, false)⟩,
                ⟨some 68, .fieldAddr 55 (.tmp 8) 1, some (62, false)⟩,
                ⟨some 69, .load 3 (.tmp 68), some (62, false)⟩,
                ⟨some 70, .binOp .neq 3 (.tmp 67) (.tmp 69) 3, some (62, false)⟩,
                ⟨some 71, .pick (.tmp 62) (.const (.bool true)) (.tmp 70), none⟩])
              (.cond (.tmp 71) (.seq (.ops [⟨some 4, .assign (.const (.int .i64 (19))), none⟩])
                (.ret))
                (.skip)))))
            (.ops [⟨some 42, .move (.tmp 7), none⟩,
              ⟨some 43, .binOp .add 3 (.tmp 42) (.const (.int .i64 (1))) 3, none⟩,
              ⟨some 7, .assign (.tmp 43), none⟩])))))))))
      (.ops [⟨some 17, .move (.tmp 5), none⟩,
        ⟨some 18, .binOp .add 3 (.tmp 17) (.const (.int .i64 (1))) 3, none⟩,
        ⟨some 5, .assign (.tmp 18), none⟩]))))))
  (.seq (.ops [⟨some 4, .assign (.const (.int .i64 (0))), none⟩])
  (.ret))))
theorem cmp_9 : Cmp Try.prog 9 72 code_9 [.tmp 4] := Cmp.of [] Try.func9 rfl rfl (by kernel_rfl) rfl
def code_10 : C2 :=
  .seq (.ops [⟨some 5, .box 3 (.tmp 2), none⟩,
    ⟨some 6, .assign (.const (.slice none 0 0)), none⟩,
    ⟨some 7, .assign (.const (.int .i64 (0))), none⟩])
  (.seq (.seq (.ops [⟨some 8, .move (.tmp 0), none⟩,
    ⟨some 9, .move (.tmp 1), none⟩,
    ⟨some 10, .call ⟨.value (.func 21), #[(.tmp 8), (.tmp 9)], #[22, 23]⟩, none⟩,
    ⟨some 11, .unOp .not 4 (.tmp 10), none⟩])
  (.cond (.tmp 11) (.seq (.ops [⟨some 6, .assign (.const (.slice none 0 0)), none⟩,
      ⟨some 7, .assign (.const (.int .i64 (2))), none⟩])
    (.ret))
    (.skip)))
  (.seq (.ops [⟨some 12, .move (.tmp 0), none⟩,
    ⟨some 13, .move (.tmp 1), none⟩,
    ⟨some 14, .call ⟨.value (.func 22), #[(.tmp 13)], #[23]⟩, none⟩,
    ⟨some 15, .makeFunc (.func 28) #[] #[(.tmp 5)], none⟩,
    ⟨some 16, .call ⟨.value (.func 24), #[(.tmp 12), (.tmp 14), (.tmp 15)], #[22, 56, 60]⟩, none⟩,
    ⟨some 6, .assign (.tmp 16), none⟩,
    ⟨some 7, .assign (.const (.int .i64 (0))), none⟩])
  (.ret)))
theorem cmp_10 : Cmp Try.prog 10 17 code_10 [.tmp 6, .tmp 7] := Cmp.of [] Try.func10 rfl rfl (by kernel_rfl) rfl
def code_11 : C2 :=
  .seq (.ops [⟨some 6, .assign (.const (.slice none 0 0)), none⟩,
    ⟨some 7, .assign (.const (.int .i64 (0))), none⟩])
  (.seq (.seq (.ops [⟨some 8, .move (.tmp 0), none⟩,
    ⟨some 9, .move (.tmp 1), none⟩,
    ⟨some 10, .call ⟨.value (.func 26), #[(.tmp 8), (.tmp 9)], #[22, 23]⟩, none⟩,
    ⟨some 11, .unOp .not 4 (.tmp 10), none⟩])
  (.cond (.tmp 11) (.seq (.ops [⟨some 6, .assign (.const (.slice none 0 0)), none⟩,
      ⟨some 7, .assign (.const (.int .i64 (2))), none⟩])
    (.ret))
    (.skip)))
  (.seq (.ops [⟨some 12, .move (.tmp 0), none⟩,
    ⟨some 13, .move (.tmp 1), none⟩,
    ⟨some 14, .move (.tmp 2), none⟩,
    ⟨some 15, .call ⟨.value (.func 27), #[(.tmp 12), (.tmp 13), (.tmp 14), (.const (.bool false))], #[22, 23, 3, 4]⟩, none⟩,
    ⟨some 6, .assign (.tmp 15), none⟩,
    ⟨some 7, .assign (.const (.int .i64 (0))), none⟩])
  (.ret)))
theorem cmp_11 : Cmp Try.prog 11 16 code_11 [.tmp 6, .tmp 7] := Cmp.of [] Try.func11 rfl rfl (by kernel_rfl) rfl
def code_12 : C2 :=
  .seq (.ops [⟨some 4, .assign (.const (.slice none 0 0)), none⟩,
    ⟨some 5, .assign (.const (.int .i64 (0))), none⟩])
  (.seq (.seq (.ops [⟨some 6, .move (.tmp 0), none⟩,
    ⟨some 7, .move (.tmp 1), none⟩,
    ⟨some 8, .call ⟨.value (.func 21), #[(.tmp 6), (.tmp 7)], #[22, 23]⟩, none⟩,
    ⟨some 9, .unOp .not 4 (.tmp 8), none⟩])
  (.cond (.tmp 9) (.seq (.ops [⟨some 4, .assign (.const (.slice none 0 0)), none⟩,
      ⟨some 5, .assign (.const (.int .i64 (2))), none⟩])
    (.ret))
    (.skip)))
  (.seq (.ops [⟨some 10, .move (.tmp 0), none⟩,
    ⟨some 11, .move (.tmp 1), none⟩,
    ⟨some 12, .call ⟨.value (.func 22), #[(.tmp 11)], #[23]⟩, none⟩,
    ⟨some 13, .call ⟨.value (.func 24), #[(.tmp 10), (.tmp 12), (.func 29)], #[22, 56, 60]⟩, none⟩,
    ⟨some 4, .assign (.tmp 13), none⟩,
    ⟨some 5, .assign (.const (.int .i64 (0))), none⟩])
  (.ret)))
theorem cmp_12 : Cmp Try.prog 12 14 code_12 [.tmp 4, .tmp 5] := Cmp.of [] Try.func12 rfl rfl (by kernel_rfl) rfl
def code_13 : C2 :=
  .seq (.ops [⟨some 4, .assign (.const (.slice none 0 0)), none⟩,
    ⟨some 5, .assign (.const (.int .i64 (0))), none⟩])
  (.seq (.seq (.ops [⟨some 6, .move (.tmp 0), none⟩,
    ⟨some 7, .move (.tmp 1), none⟩,
    ⟨some 8, .call ⟨.value (.func 26), #[(.tmp 6), (.tmp 7)], #[22, 23]⟩, none⟩,
    ⟨some 9, .unOp .not 4 (.tmp 8), none⟩])
  (.cond (.tmp 9) (.seq (.ops [⟨some 4, .assign (.const (.slice none 0 0)), none⟩,
      ⟨some 5, .assign (.const (.int .i64 (2))), none⟩])
    (.ret))
    (.skip)))
  (.seq (.ops [⟨some 10, .move (.tmp 0), none⟩,
    ⟨some 11, .move (.tmp 1), none⟩,
    ⟨some 12, .call ⟨.value (.func 27), #[(.tmp 10), (.tmp 11), (.const (.int .i64 (0))), (.const (.bool true))], #[22, 23, 3, 4]⟩, none⟩,
    ⟨some 4, .assign (.tmp 12), none⟩,
    ⟨some 5, .assign (.const (.int .i64 (0))), none⟩])
  (.ret)))
theorem cmp_13 : Cmp Try.prog 13 13 code_13 [.tmp 4, .tmp 5] := Cmp.of [] Try.func13 rfl rfl (by kernel_rfl) rfl
def code_14 : C2 :=
  .seq (.ops [⟨some 4, .assign (.const (.bool false)), none⟩])
  (.seq (.seq (.ops [⟨some 6, .move (.tmp 0), none⟩,
    ⟨some 7, .call ⟨.builtin .len, #[(.tmp 6)], #[35]⟩, none⟩,
    ⟨some 8, .move (.tmp 1), none⟩,
    ⟨some 9, .call ⟨.builtin .len, #[(.tmp 8)], #[22]⟩, none⟩,
    ⟨some 10, .binOp .neq 3 (.tmp 7) (.tmp 9) 3, none⟩])
  (.cond (.tmp 10) (.seq (.ops [⟨some 4, .assign (.const (.bool false)), none⟩])
    (.ret))
    (.skip)))
  (.seq (.seq (.ops [⟨some 5, .assign (.const (.int .i64 (0))), none⟩])
  (.block 0 (.loop (.seq (.seq (.ops [⟨some 11, .move (.tmp 5), none⟩,
        ⟨some 12, .move (.tmp 0), none⟩,
        ⟨some 13, .call ⟨.builtin .len, #[(.tmp 12)], #[35]⟩, none⟩,
        ⟨some 14, .binOp .lss 3 (.tmp 11) (.tmp 13) 3, none⟩])
      (.cond (.tmp 14) (.skip)
        (.exit 0)))
      (.seq (.block 1 (.seq (.drawn [⟨some 17, .move (.tmp 0), none⟩,
          ⟨some 18, .move (.tmp 5), none⟩,
          ⟨some 19, .indexAddr 35 (.tmp 17) (.tmp 18), none⟩,
          ⟨some 20, .load 3 (.tmp 19), none⟩,
          ⟨some 21, .move (.tmp 1), none⟩,
          ⟨some 22, .move (.tmp 5), none⟩,
          ⟨some 23, .indexAddr 22 (.tmp 21) (.tmp 22), none⟩,
          ⟨some 24, .load 3 (.tmp 23), none⟩,
          ⟨some 25, .binOp .neq 3 (.tmp 20) (.tmp 24) 3, none⟩])
        (.cond (.tmp 25) (.seq (.ops [⟨some 4, .assign (.const (.bool false)), none⟩])
          (.ret))
          (.skip))))
      (.ops [⟨some 15, .move (.tmp 5), none⟩,
        ⟨some 16, .binOp .add 3 (.tmp 15) (.const (.int .i64 (1))) 3, none⟩,
        ⟨some 5, .assign (.tmp 16), none⟩]))))))
  (.seq (.ops [⟨some 4, .assign (.const (.bool true)), none⟩])
  (.ret))))
theorem cmp_14 : Cmp Try.prog 14 26 code_14 [.tmp 4] := Cmp.of [] Try.func14 rfl rfl (by kernel_rfl) rfl
def code_21 : C2 :=
  .seq (.ops [⟨some 4, .assign (.const (.bool false)), none⟩])
  (.seq (.seq (.ops [⟨some 10, .move (.tmp 0), none⟩,
    ⟨some 11, .call ⟨.builtin .len, #[(.tmp 10)], #[22]⟩, none⟩,
    ⟨some 12, .binOp .leq 3 (.tmp 11) (.const (.int .i64 (2))) 3, none⟩])
  (.cond (.tmp 12) (.seq (.ops [⟨some 4, .assign (.const (.bool false)), none⟩])
    (.ret))
    (.skip)))
  (.seq (.ops [⟨some 13, .makeMap 71 none, none⟩,
    ⟨some 5, .assign (.tmp 13), none⟩])
  (.seq (.seq (.ops [⟨some 14, .move (.tmp 1), none⟩,
    ⟨some 15, .call ⟨.builtin .len, #[(.tmp 14)], #[23]⟩, none⟩,
    ⟨some 16, .move (.const (.int .i64 (0))), none⟩])
  (.block 0 (.loop (.seq (.ops [⟨some 17, .binOp .lss 3 (.tmp 16) (.tmp 15) 3, none⟩])
      (.seq (.cond (.tmp 17) (.skip)
        (.exit 0))
      (.seq (.block 1 (.seq (.ops [⟨some 18, .indexAddr 23 (.tmp 14) (.tmp 16), none⟩,
          ⟨some 19, .load 53 (.tmp 18), none⟩,
          ⟨some 7, .alloc 53, none⟩,
          ⟨none, .store 53 (.tmp 7) (.tmp 19), none⟩])
        (.seq (.seq (.ops [⟨some 20, .load 53 (.tmp 7), none⟩,
          ⟨some 21, .call ⟨.value (.func 41), #[(.tmp 20)], #[53]⟩, none⟩,
          ⟨some 22, .unOp .not 4 (.tmp 21), none⟩])
        (.cond (.tmp 22) (.exit 1)
          (.skip)))
        (.seq (.seq (.ops [⟨some 23, .move (.tmp 5), none⟩,
          ⟨some 24, .fieldAddr 53 (.tmp 7) 3, none⟩,
          ⟨some 25, .load 3 (.tmp 24), none⟩,
          ⟨some 26, .lookup 71 (.tmp 23) (.tmp 25) false, none⟩,
          ⟨some 27, .binOp .gtr 3 (.tmp 26) (.const (.int .i64 (0))) 3, none⟩])
        (.cond (.tmp 27) (.seq (.ops [⟨some 4, .assign (.const (.bool false)), none⟩])
          (.ret))
          (.skip)))
        (.seq (.ops [⟨some 28, .move (.tmp 5), none⟩,
          ⟨some 29, .fieldAddr 53 (.tmp 7) 3, none⟩,
          ⟨some 30, .load 3 (.tmp 29), none⟩,
          ⟨some 31, .lookup 71 (.tmp 28) (.tmp 30) false, none⟩,
          ⟨some 32, .binOp .add 3 (.tmp 31) (.const (.int .i64 (1))) 3, none⟩,
          ⟨none, .mapUpdate 71 (.tmp 28) (.tmp 30) (.tmp 32), none⟩])
        (.seq (.ops [⟨some 33, .fieldAddr 53 (.tmp 7) 7, none⟩,
          ⟨some 34, .load 51 (.tmp 33), none⟩,
          ⟨some 35, .call ⟨.builtin .len, #[(.tmp 34)], #[51]⟩, none⟩,
          ⟨some 36, .move (.const (.int .i64 (0))), none⟩])
        (.block 2 (.loop (.seq (.ops [⟨some 37, .binOp .lss 3 (.tmp 36) (.tmp 35) 3, none⟩])
            (.seq (.cond (.tmp 37) (.skip)
              (.exit 2))
            (.seq (.block 3 (.seq (.ops [⟨some 38, .indexAddr 51 (.tmp 34) (.tmp 36), none⟩,
                ⟨some 39, .load 55 (.tmp 38), none⟩,
                ⟨some 9, .alloc 55, none⟩,
                ⟨none, .store 55 (.tmp 9) (.tmp 39), none⟩])
              (.seq (.ops [⟨some 40, .fieldAddr 55 (.tmp 9) 0, none⟩,
                ⟨some 41, .load 3 (.tmp 40), none⟩,
                ⟨some 42, .binOp .lss 3 (.tmp 41) (.const (.int .i64 (0))) 3, none⟩,
                ⟨some 43, .move (.tmp 42), none⟩,
                ⟨some 44, .fieldAddr 55 (.tmp 9) 0, some (43, false)⟩,
                ⟨some 45, .load 3 (.tmp 44), some (43, false)⟩,
                ⟨some 46, .move (.tmp 0), some (43, false)⟩,
                ⟨some 47, .call ⟨.builtin .len, #[(.tmp 46)], #[22]⟩, some (43, false)⟩,
                ⟨some 48, .binOp .geq 3 (.tmp 45) (.tmp 47) 3, some (43, false)⟩,
                ⟨some 49, .pick (.tmp 43) (.const (.bool true)) (.tmp 48), none⟩])
              (.cond (.tmp 49) (.seq (.ops [⟨some 4, .assign (.const (.bool false)), none⟩])
                (.ret))
                (.skip)))))
            (.ops [⟨some 50, .binOp .add 3 (.tmp 36) (.const (.int .i64 (1))) 3, none⟩,
              ⟨some 36, .move (.tmp 50), none⟩]))))))))))))
      (.ops [⟨some 51, .binOp .add 3 (.tmp 16) (.const (.int .i64 (1))) 3, none⟩,
        ⟨some 16, .move (.tmp 51), none⟩])))))))
  (.seq (.ops [⟨some 4, .assign (.const (.bool true)), none⟩])
  (.ret)))))
theorem cmp_21 : Cmp Try.prog 21 52 code_21 [.tmp 4] := Cmp.of [] Try.func21 rfl rfl (by kernel_rfl) rfl
def code_22 : C2 :=
  .seq (.ops [⟨some 2, .assign (.const (.slice none 0 0)), none⟩])
  (.seq (.ops [⟨some 3, .assign (.const (.slice none 0 0)), none⟩])
  (.seq (.seq (.ops [⟨some 6, .move (.tmp 0), none⟩,
    ⟨some 7, .call ⟨.builtin .len, #[(.tmp 6)], #[23]⟩, none⟩,
    ⟨some 8, .move (.const (.int .i64 (0))), none⟩])
  (.block 0 (.loop (.seq (.ops [⟨some 9, .binOp .lss 3 (.tmp 8) (.tmp 7) 3, none⟩])
      (.seq (.cond (.tmp 9) (.skip)
        (.exit 0))
      (.seq (.block 1 (.seq (.ops [⟨some 10, .indexAddr 23 (.tmp 6) (.tmp 8), none⟩,
          ⟨some 11, .load 53 (.tmp 10), none⟩,
          ⟨some 5, .alloc 53, none⟩,
          ⟨none, .store 53 (.tmp 5) (.tmp 11), none⟩])
        (.seq (.seq (.ops [⟨some 12, .fieldAddr 53 (.tmp 5) 4, none⟩,
          ⟨some 13, .load 4 (.tmp 12), none⟩,
          ⟨some 14, .move (.tmp 13), none⟩,
          ⟨some 15, .fieldAddr 53 (.tmp 5) 2, some (14, true)⟩,
          ⟨some 16, .load 3 (.tmp 15), some (14, true)⟩,
          ⟨some 17, .binOp .gtr 3 (.tmp 16) (.const (.int .i64 (0))) 3, some (14, true)⟩,
          ⟨some 18, .pick (.tmp 14) (.tmp 17) (.const (.bool false)), none⟩])
        (.cond (.tmp 18) (.ops [⟨some 19, .move (.tmp 3), none⟩,
            ⟨some 20, .fieldAddr 53 (.tmp 5) 2, none⟩,
            ⟨some 21, .load 3 (.tmp 20), none⟩,
            ⟨some 22, .fieldAddr 53 (.tmp 5) 0, none⟩,
            ⟨some 23, .load 3 (.tmp 22), none⟩,
            ⟨some 24, .binOp .add 3 (.tmp 23) (.const (.int .i64 (1))) 3, none⟩,
            ⟨some 25, .build 55 #[(0, (.const (.int .i64 (2)))), (1, (.tmp 24))], none⟩,
            ⟨some 26, .buildSlice 51 1 #[(0, (.tmp 25))], none⟩,
            ⟨some 27, .build 74 #[(0, (.tmp 21)), (1, (.const (.bool true))), (2, (.tmp 26))], none⟩,
            ⟨some 28, .buildSlice 56 1 #[(0, (.tmp 27))], none⟩,
            ⟨some 29, .call ⟨.builtin .append, #[(.tmp 19), (.tmp 28)], #[56, 56]⟩, none⟩,
            ⟨some 3, .assign (.tmp 29), none⟩])
          (.skip)))
        (.seq (.ops [⟨some 30, .load 53 (.tmp 5), none⟩,
          ⟨some 31, .call ⟨.value (.func 41), #[(.tmp 30)], #[53]⟩, none⟩])
        (.cond (.tmp 31) (.ops [⟨some 32, .move (.tmp 3), none⟩,
            ⟨some 33, .fieldAddr 53 (.tmp 5) 3, none⟩,
            ⟨some 34, .load 3 (.tmp 33), none⟩,
            ⟨some 35, .fieldAddr 53 (.tmp 5) 7, none⟩,
            ⟨some 36, .load 51 (.tmp 35), none⟩,
            ⟨some 37, .build 74 #[(0, (.tmp 34)), (1, (.const (.bool false))), (2, (.tmp 36))], none⟩,
            ⟨some 38, .buildSlice 56 1 #[(0, (.tmp 37))], none⟩,
            ⟨some 39, .call ⟨.builtin .append, #[(.tmp 32), (.tmp 38)], #[56, 56]⟩, none⟩,
            ⟨some 3, .assign (.tmp 39), none⟩])
          (.skip))))))
      (.ops [⟨some 40, .binOp .add 3 (.tmp 8) (.const (.int .i64 (1))) 3, none⟩,
        ⟨some 8, .move (.tmp 40), none⟩])))))))
  (.seq (.ops [⟨some 41, .move (.tmp 3), none⟩,
    ⟨some 42, .call ⟨.value (.func 42), #[(.tmp 41), (.func 43)], #[56, 77]⟩, none⟩])
  (.seq (.ops [⟨some 43, .move (.tmp 3), none⟩,
    ⟨some 2, .assign (.tmp 43), none⟩])
  (.ret)))))
theorem cmp_22 : Cmp Try.prog 22 44 code_22 [.tmp 2] := Cmp.of [] Try.func22 rfl rfl (by kernel_rfl) rfl
def code_23 : C2 :=
  .seq (.ops [⟨some 4, .assign (.const (.bool false)), none⟩])
  (.seq (.seq (.ops [⟨some 7, .move (.tmp 1), none⟩,
    ⟨some 8, .call ⟨.builtin .len, #[(.tmp 7)], #[51]⟩, none⟩,
    ⟨some 9, .move (.const (.int .i64 (0))), none⟩])
  (.block 0 (.loop (.seq (.ops [⟨some 10, .binOp .lss 3 (.tmp 9) (.tmp 8) 3, none⟩])
      (.seq (.cond (.tmp 10) (.skip)
        (.exit 0))
      (.seq (.block 1 (.seq (.ops [⟨some 11, .indexAddr 51 (.tmp 7) (.tmp 9), none⟩,
          ⟨some 12, .load 55 (.tmp 11), none⟩,
          ⟨some 6, .alloc 55, none⟩,
          ⟨none, .store 55 (.tmp 6) (.tmp 12), none⟩])
        (.seq (.drawn [⟨some 13, .fieldAddr 55 (.tmp 6) 0, none⟩,
          ⟨some 14, .load 3 (.tmp 13), none⟩,
          ⟨some 15, .binOp .lss 3 (.tmp 14) (.const (.int .i64 (0))) 3, none⟩,
          ⟨some 16, .move (.tmp 15), none⟩,
          ⟨some 17, .fieldAddr 55 (.tmp 6) 0, some (16, false)⟩,
          ⟨some 18, .load 3 (.tmp 17), some (16, false)⟩,
          ⟨some 19, .move (.tmp 0), some (16, false)⟩,
          ⟨some 20, .call ⟨.builtin .len, #[(.tmp 19)], #[22]⟩, some (16, false)⟩,
          ⟨some 21, .binOp .geq 3 (.tmp 18) (.tmp 20) 3, some (16, false)⟩,
          ⟨some 22, .pick (.tmp 16) (.const (.bool true)) (.tmp 21), none⟩,
          ⟨some 23, .move (.tmp 22), none⟩,
          ⟨some 24, .move (.tmp 0), some (23, false)⟩,
          ⟨some 25, .fieldAddr 55 (.tmp 6) 0, some (23, false)⟩,
          ⟨some 26, .load 3 (.tmp 25), some (23, false)⟩,
          ⟨some 27, .indexAddr 22 (.tmp 24) (.tmp 26), some (23, false)⟩,
          ⟨some 28, .load 3 (.tmp 27), some (23, false)⟩,
          ⟨some 29, .fieldAddr 55 (.tmp 6) 1, some (23, false)⟩,
          ⟨some 30, .load 3 (.tmp 29), some (23, false)⟩,
          ⟨some 31, .binOp .neq 3 (.tmp 28) (.tmp 30) 3, some (23, false)⟩,
          ⟨some 32, .pick (.tmp 23) (.const (.bool true)) (.tmp 31), none⟩])
        (.cond (.tmp 32) (.seq (.ops [⟨some 4, .assign (.const (.bool false)), none⟩])
          (.ret))
          (.skip)))))
      (.ops [⟨some 33, .binOp .add 3 (.tmp 9) (.const (.int .i64 (1))) 3, none⟩,
        ⟨some 9, .move (.tmp 33), none⟩])))))))
  (.seq (.ops [⟨some 4, .assign (.const (.bool true)), none⟩])
  (.ret)))
theorem cmp_23 : Cmp Try.prog 23 34 code_23 [.tmp 4] := Cmp.of [] Try.func23 rfl rfl (by kernel_rfl) rfl
def code_24 : C2 :=
  .seq (.ops [⟨some 6, .assign (.const (.slice none 0 0)), none⟩])
  (.seq (.ops [⟨some 12, .move (.tmp 0), none⟩,
    ⟨some 13, .call ⟨.value (.func 45), #[(.tmp 12)], #[22]⟩, none⟩,
    ⟨some 7, .assign (.tmp 13), none⟩])
  (.seq (.skip)
  (.seq (.seq (.ops [⟨some 14, .move (.tmp 1), none⟩,
    ⟨some 15, .call ⟨.builtin .len, #[(.tmp 14)], #[56]⟩, none⟩,
    ⟨some 16, .move (.const (.int .i64 (0))), none⟩])
  (.block 0 (.loop (.seq (.ops [⟨some 17, .binOp .lss 3 (.tmp 16) (.tmp 15) 3, none⟩])
      (.seq (.cond (.tmp 17) (.skip)
        (.exit 0))
      (.seq (.block 1 (.seq (.ops [⟨some 18, .indexAddr 56 (.tmp 14) (.tmp 16), none⟩,
          ⟨some 19, .load 74 (.tmp 18), none⟩,
          ⟨some 9, .alloc 74, none⟩,
          ⟨none, .store 74 (.tmp 9) (.tmp 19), none⟩])
        (.seq (.seq (.ops [⟨some 20, .move (.tmp 2), none⟩,
          ⟨some 21, .fieldAddr 74 (.tmp 9) 0, none⟩,
          ⟨some 22, .load 3 (.tmp 21), none⟩,
          ⟨some 23, .call ⟨.value (.tmp 20), #[(.tmp 22)], #[3]⟩, none⟩,
          ⟨some 24, .unOp .not 4 (.tmp 23), none⟩])
        (.cond (.tmp 24) (.exit 0)
          (.skip)))
        (.seq (.ops [⟨some 25, .fieldAddr 74 (.tmp 9) 2, none⟩,
          ⟨some 26, .load 51 (.tmp 25), none⟩,
          ⟨some 27, .call ⟨.builtin .len, #[(.tmp 26)], #[51]⟩, none⟩,
          ⟨some 28, .move (.const (.int .i64 (0))), none⟩])
        (.block 2 (.loop (.seq (.ops [⟨some 29, .binOp .lss 3 (.tmp 28) (.tmp 27) 3, none⟩])
            (.seq (.cond (.tmp 29) (.skip)
              (.exit 2))
            (.seq (.block 3 (.seq (.ops [⟨some 30, .indexAddr 51 (.tmp 26) (.tmp 28), none⟩,
                ⟨some 31, .load 55 (.tmp 30), none⟩,
                ⟨some 11, .alloc 55, none⟩,
                ⟨none, .store 55 (.tmp 11) (.tmp 31), none⟩])
              (.ops [⟨some 32, .move (.tmp 7), none⟩,
                ⟨some 33, .fieldAddr 55 (.tmp 11) 0, none⟩,
                ⟨some 34, .load 3 (.tmp 33), none⟩,
                ⟨some 35, .fieldAddr 55 (.tmp 11) 1, none⟩,
                ⟨some 36, .load 3 (.tmp 35), none⟩,
                ⟨some 37, .indexAddr 22 (.tmp 32) (.tmp 34), none⟩,
                ⟨none, .store 3 (.tmp 37) (.tmp 36), none⟩])))
            (.ops [⟨some 38, .binOp .add 3 (.tmp 28) (.const (.int .i64 (1))) 3, none⟩,
              ⟨some 28, .move (.tmp 38), none⟩]))))))))))
      (.ops [⟨some 39, .binOp .add 3 (.tmp 16) (.const (.int .i64 (1))) 3, none⟩,
        ⟨some 16, .move (.tmp 39), none⟩])))))))
  (.seq (.ops [⟨some 40, .move (.tmp 7), none⟩,
    ⟨some 6, .assign (.tmp 40), none⟩])
  (.ret)))))
theorem cmp_24 : Cmp Try.prog 24 41 code_24 [.tmp 6] := Cmp.of [] Try.func24 rfl rfl (by kernel_rfl) rfl
def code_25 : C2 :=
  .seq (.ops [⟨some 3, .assign (.const (.bool false)), none⟩])
  (.seq (.ops [⟨some 4, .move (.tmp 0), none⟩,
    ⟨some 5, .fieldAddr 53 (.tmp 1) 2, none⟩,
    ⟨some 6, .load 3 (.tmp 5), none⟩,
    ⟨some 7, .binOp .leq 3 (.tmp 4) (.tmp 6) 3, none⟩,
    ⟨some 3, .assign (.tmp 7), none⟩])
  (.ret))
theorem cmp_25 : Cmp Try.prog 25 8 code_25 [.tmp 3] := Cmp.of [] Try.func25 rfl rfl (by kernel_rfl) rfl
def code_26 : C2 :=
  .seq (.ops [⟨some 4, .assign (.const (.bool false)), none⟩])
  (.seq (.seq (.ops [⟨some 9, .move (.tmp 0), none⟩,
    ⟨some 10, .call ⟨.builtin .len, #[(.tmp 9)], #[22]⟩, none⟩,
    ⟨some 11, .binOp .lss 3 (.tmp 10) (.const (.int .i64 (3))) 3, none⟩])
  (.cond (.tmp 11) (.seq (.ops [⟨some 4, .assign (.const (.bool false)), none⟩])
    (.ret))
    (.skip)))
  (.seq (.seq (.ops [⟨some 5, .assign (.const (.int .i64 (0))), none⟩])
  (.block 0 (.loop (.seq (.seq (.ops [⟨some 12, .move (.tmp 5), none⟩,
        ⟨some 13, .move (.tmp 1), none⟩,
        ⟨some 14, .call ⟨.builtin .len, #[(.tmp 13)], #[23]⟩, none⟩,
        ⟨some 15, .binOp .lss 3 (.tmp 12) (.tmp 14) 3, none⟩])
      (.cond (.tmp 15) (.skip)
        (.exit 0)))
      (.seq (.block 1 (.seq (.seq (.ops [⟨some 18, .move (.tmp 1), none⟩,
          ⟨some 19, .move (.tmp 5), none⟩,
          ⟨some 20, .indexAddr 23 (.tmp 18) (.tmp 19), none⟩,
          ⟨some 21, .load 53 (.tmp 20), none⟩,
          ⟨some 22, .call ⟨.value (.func 46), #[(.tmp 21)], #[53]⟩, none⟩,
          ⟨some 23, .unOp .not 4 (.tmp 22), none⟩])
        (.cond (.tmp 23) (.exit 1)
          (.skip)))
        (.seq (.seq (.ops [⟨some 6, .assign (.const (.int .i64 (0))), none⟩])
        (.block 2 (.loop (.seq (.seq (.ops [⟨some 24, .move (.tmp 6), none⟩,
              ⟨some 25, .move (.tmp 1), none⟩,
              ⟨some 26, .move (.tmp 5), none⟩,
              ⟨some 27, .indexAddr 23 (.tmp 25) (.tmp 26), none⟩,
              ⟨some 28, .fieldAddr 53 (.tmp 27) 7, none⟩,
              ⟨some 29, .load 51 (.tmp 28), none⟩,
              ⟨some 30, .call ⟨.builtin .len, #[(.tmp 29)], #[51]⟩, none⟩,
              ⟨some 31, .binOp .lss 3 (.tmp 24) (.tmp 30) 3, none⟩])
            (.cond (.tmp 31) (.skip)
              (.exit 2)))
            (.seq (.block 3 (.seq (.ops [⟨some 34, .move (.tmp 1), none⟩,
                ⟨some 35, .move (.tmp 5), none⟩,
                ⟨some 36, .indexAddr 23 (.tmp 34) (.tmp 35), none⟩,
                ⟨some 37, .fieldAddr 53 (.tmp 36) 7, none⟩,
                ⟨some 38, .load 51 (.tmp 37), none⟩,
                ⟨some 39, .move (.tmp 6), none⟩,
                ⟨some 40, .indexAddr 51 (.tmp 38) (.tmp 39), none⟩,
                ⟨some 41, .fieldAddr 55 (.tmp 40) 0, none⟩,
                ⟨some 42, .load 3 (.tmp 41), none⟩,
                ⟨some 7, .assign (.tmp 42), none⟩])
              (.seq (.ops [⟨some 43, .move (.tmp 7), none⟩,
                ⟨some 44, .binOp .lss 3 (.tmp 43) (.const (.int .i64 (0))) 3, none⟩,
                ⟨some 45, .move (.tmp 44), none⟩,
                ⟨some 46, .move (.tmp 7), some (45, false)⟩,
                ⟨some 47, .move (.tmp 0), some (45, false)⟩,
                ⟨some 48, .call ⟨.builtin .len, #[(.tmp 47)], #[22]⟩, some (45, false)⟩,
                ⟨some 49, .binOp .geq 3 (.tmp 46) (.tmp 48) 3, some (45, false)⟩,
                ⟨some 50, .pick (.tmp 45) (.const (.bool true)) (.tmp 49), none⟩])
              (.cond (.tmp 50) (.seq (.ops [⟨some 4, .assign (.const (.bool false)), none⟩])
                (.ret))
                (.skip)))))
            (.ops [⟨some 32, .move (.tmp 6), none⟩,
              ⟨some 33, .binOp .add 3 (.tmp 32) (.const (.int .i64 (1))) 3, none⟩,
              ⟨some 6, .assign (.tmp 33), none⟩]))))))
        (.seq (.ops [⟨some 8, .assign (.const (.int .i64 (0))), none⟩])
        (.block 4 (.loop (.seq (.seq (.ops [⟨some 51, .move (.tmp 8), none⟩,
              ⟨some 52, .move (.tmp 5), none⟩,
              ⟨some 53, .binOp .lss 3 (.tmp 51) (.tmp 52) 3, none⟩])
            (.cond (.tmp 53) (.skip)
              (.exit 4)))
            (.seq (.block 5 (.seq (.drawn [⟨some 56, .move (.tmp 1), none⟩,
                ⟨some 57, .move (.tmp 8), none⟩,
                ⟨some 58, .indexAddr 23 (.tmp 56) (.tmp 57), none⟩,
                ⟨some 59, .load 53 (.tmp 58), none⟩,
                ⟨some 60, .call ⟨.value (.func 46), #[(.tmp 59)], #[53]⟩, none⟩,
                ⟨some 61, .move (.tmp 60), none⟩,
                ⟨some 62, .move (.tmp 1), some (61, true)⟩,
                ⟨some 63, .move (.tmp 8), some (61, true)⟩,
                ⟨some 64, .indexAddr 23 (.tmp 62) (.tmp 63), some (61, true)⟩,
                ⟨some 65, .fieldAddr 53 (.tmp 64) 3, some (61, true)⟩,
                ⟨some 66, .load 3 (.tmp 65), some (61, true)⟩,
                ⟨some 67, .move (.tmp 1), some (61, true)⟩,
                ⟨some 68, .move (.tmp 5), some (61, true)⟩,
                ⟨some 69, .indexAddr 23 (.tmp 67) (.tmp 68), some (61, true)⟩,
                ⟨some 70, .fieldAddr 53 (.tmp 69) 3, some (61, true)⟩,
                ⟨some 71, .load 3 (.tmp 70), some (61, true)⟩,
                ⟨some 72, .binOp .eql 3 (.tmp 66) (.tmp 71) 3, some (61, true)⟩,
                ⟨some 73, .pick (.tmp 61) (.tmp 72) (.const (.bool false)), none⟩])
              (.cond (.tmp 73) (.seq (.ops [⟨some 4, .assign (.const (.bool false)), none⟩])
                (.ret))
                (.skip))))
            (.ops [⟨some 54, .move (.tmp 8), none⟩,
              ⟨some 55, .binOp .add 3 (.tmp 54) (.const (.int .i64 (1))) 3, none⟩,
              ⟨some 8, .assign (.tmp 55), none⟩])))))))))
      (.ops [⟨some 16, .move (.tmp 5), none⟩,
        ⟨some 17, .binOp .add 3 (.tmp 16) (.const (.int .i64 (1))) 3, none⟩,
        ⟨some 5, .assign (.tmp 17), none⟩]))))))
  (.seq (.ops [⟨some 4, .assign (.const (.bool true)), none⟩])
  (.ret))))
theorem cmp_26 : Cmp Try.prog 26 74 code_26 [.tmp 4] := Cmp.of [] Try.func26 rfl rfl (by kernel_rfl) rfl
def tail_27_1 : C2 :=
  .cond (.tmp 31) (.skip)
  (.exit 0)
def tail_27_2 : C2 :=
  .cond (.tmp 35) (.skip)
  (.exit 2)
def tail_27_3 : C2 :=
  .cond (.tmp 51) (.ops [⟨some 52, .move (.tmp 9), none⟩,
    ⟨some 53, .move (.tmp 1), none⟩,
    ⟨some 54, .move (.tmp 12), none⟩,
    ⟨some 55, .indexAddr 23 (.tmp 53) (.tmp 54), none⟩,
    ⟨some 56, .fieldAddr 53 (.tmp 55) 0, none⟩,
    ⟨some 57, .load 3 (.tmp 56), none⟩,
    ⟨some 58, .binOp .add 3 (.tmp 57) (.const (.int .i64 (1))) 3, none⟩,
    ⟨some 59, .indexAddr 22 (.tmp 52) (.const (.int .i64 (2))), none⟩,
    ⟨none, .store 3 (.tmp 59) (.tmp 58), none⟩])
  (.skip)
def tail_27_4 : C2 :=
  .ops [⟨some 36, .move (.tmp 12), none⟩,
    ⟨some 37, .binOp .add 3 (.tmp 36) (.const (.int .i64 (1))) 3, none⟩,
    ⟨some 12, .assign (.tmp 37), none⟩]
def tail_27_5 : C2 :=
  .seq (.block 3 (.seq (.ops [⟨some 38, .move (.tmp 1), none⟩,
    ⟨some 39, .move (.tmp 12), none⟩,
    ⟨some 40, .indexAddr 23 (.tmp 38) (.tmp 39), none⟩,
    ⟨some 41, .load 53 (.tmp 40), none⟩,
    ⟨some 42, .call ⟨.value (.func 48), #[(.tmp 41)], #[53]⟩, none⟩,
    ⟨some 43, .move (.tmp 42), none⟩,
    ⟨some 44, .move (.tmp 1), some (43, true)⟩,
    ⟨some 45, .move (.tmp 12), some (43, true)⟩,
    ⟨some 46, .indexAddr 23 (.tmp 44) (.tmp 45), some (43, true)⟩,
    ⟨some 47, .fieldAddr 53 (.tmp 46) 2, some (43, true)⟩,
    ⟨some 48, .load 3 (.tmp 47), some (43, true)⟩,
    ⟨some 49, .move (.tmp 10), some (43, true)⟩,
    ⟨some 50, .binOp .eql 3 (.tmp 48) (.tmp 49) 3, some (43, true)⟩,
    ⟨some 51, .pick (.tmp 43) (.tmp 50) (.const (.bool false)), none⟩])
  tail_27_3))
  tail_27_4
def tail_27_6 : C2 :=
  .block 2 (.loop (.seq (.seq (.ops [⟨some 32, .move (.tmp 12), none⟩,
    ⟨some 33, .move (.tmp 1), none⟩,
    ⟨some 34, .call ⟨.builtin .len, #[(.tmp 33)], #[23]⟩, none⟩,
    ⟨some 35, .binOp .lss 3 (.tmp 32) (.tmp 34) 3, none⟩])
  tail_27_2)
  tail_27_5))
def tail_27_7 : C2 :=
  .cond (.tmp 63) (.skip)
  (.exit 4)
def tail_27_8 : C2 :=
  .cond (.tmp 89) (.skip)
  (.exit 6)
def tail_27_9 : C2 :=
  .ops [⟨some 90, .move (.tmp 14), none⟩,
    ⟨some 91, .binOp .add 3 (.tmp 90) (.const (.int .i64 (1))) 3, none⟩,
    ⟨some 14, .assign (.tmp 91), none⟩]
def tail_27_10 : C2 :=
  .seq (.block 7 (.drawn [⟨some 92, .move (.tmp 9), none⟩,
    ⟨some 93, .move (.tmp 1), none⟩,
    ⟨some 94, .move (.tmp 13), none⟩,
    ⟨some 95, .indexAddr 23 (.tmp 93) (.tmp 94), none⟩,
    ⟨some 96, .fieldAddr 53 (.tmp 95) 7, none⟩,
    ⟨some 97, .load 51 (.tmp 96), none⟩,
    ⟨some 98, .move (.tmp 14), none⟩,
    ⟨some 99, .indexAddr 51 (.tmp 97) (.tmp 98), none⟩,
    ⟨some 100, .fieldAddr 55 (.tmp 99) 0, none⟩,
    ⟨some 101, .load 3 (.tmp 100), none⟩,
    ⟨some 102, .move (.tmp 1), none⟩,
    ⟨some 103, .move (.tmp 13), none⟩,
    ⟨some 104, .indexAddr 23 (.tmp 102) (.tmp 103), none⟩,
    ⟨some 105, .fieldAddr 53 (.tmp 104) 7, none⟩,
    ⟨some 106, .load 51 (.tmp 105), none⟩,
    ⟨some 107, .move (.tmp 14), none⟩,
    ⟨some 108, .indexAddr 51 (.tmp 106) (.tmp 107), none⟩,
    ⟨some 109, .fieldAddr 55 (.tmp 108) 1, none⟩,
    ⟨some 110, .load 3 (.tmp 109), none⟩,
    ⟨some 111, .indexAddr 22 (.tmp 92) (.tmp 101), none⟩,
    ⟨none, .store 3 (.tmp 111) (.tmp 110), none⟩]))
  tail_27_9
def tail_27_11 : C2 :=
  .block 6 (.loop (.seq (.seq (.ops [⟨some 66, .move (.tmp 14), none⟩,
    ⟨some 67, .move (.tmp 1), none⟩,
    ⟨some 68, .move (.tmp 13), none⟩,
    ⟨some 69, .indexAddr 23 (.tmp 67) (.tmp 68), none⟩,
    ⟨some 70, .fieldAddr 53 (.tmp 69) 7, none⟩,
    ⟨some 71, .load 51 (.tmp 70), none⟩,
    ⟨some 72, .call ⟨.builtin .len, #[(.tmp 71)], #[51]⟩, none⟩,
    ⟨some 73, .binOp .lss 3 (.tmp 66) (.tmp 72) 3, none⟩,
    ⟨some 74, .move (.tmp 73), none⟩,
    ⟨some 75, .move (.tmp 1), some (74, true)⟩,
    ⟨some 76, .move (.tmp 13), some (74, true)⟩,
    ⟨some 77, .indexAddr 23 (.tmp 75) (.tmp 76), some (74, true)⟩,
    ⟨some 78, .load 53 (.tmp 77), some (74, true)⟩,
    ⟨some 79, .call ⟨.value (.func 46), #[(.tmp 78)], #[53]⟩, some (74, true)⟩,
    ⟨some 80, .pick (.tmp 74) (.tmp 79) (.const (.bool false)), none⟩,
    ⟨some 81, .move (.tmp 80), none⟩,
    ⟨some 82, .move (.tmp 1), some (81, true)⟩,
    ⟨some 83, .move (.tmp 13), some (81, true)⟩,
    ⟨some 84, .indexAddr 23 (.tmp 82) (.tmp 83), some (81, true)⟩,
    ⟨some 85, .fieldAddr 53 (.tmp 84) 3, some (81, true)⟩,
    ⟨some 86, .load 3 (.tmp 85), some (81, true)⟩,
    ⟨some 87, .move (.tmp 10), some (81, true)⟩,
    ⟨some 88, .binOp .eql 3 (.tmp 86) (.tmp 87) 3, some (81, true)⟩,
    ⟨some 89, .pick (.tmp 81) (.tmp 88) (.const (.bool false)), none⟩])
  tail_27_8)
  tail_27_10))
def tail_27_12 : C2 :=
  .ops [⟨some 64, .move (.tmp 13), none⟩,
    ⟨some 65, .binOp .add 3 (.tmp 64) (.const (.int .i64 (1))) 3, none⟩,
    ⟨some 13, .assign (.tmp 65), none⟩]
def tail_27_13 : C2 :=
  .seq (.block 5 (.seq (.ops [⟨some 14, .assign (.const (.int .i64 (0))), none⟩])
  tail_27_11))
  tail_27_12
def tail_27_14 : C2 :=
  .block 4 (.loop (.seq (.seq (.ops [⟨some 60, .move (.tmp 13), none⟩,
    ⟨some 61, .move (.tmp 1), none⟩,
    ⟨some 62, .call ⟨.builtin .len, #[(.tmp 61)], #[23]⟩, none⟩,
    ⟨some 63, .binOp .lss 3 (.tmp 60) (.tmp 62) 3, none⟩])
  tail_27_7)
  tail_27_13))
def tail_27_15 : C2 :=
  .ops [⟨some 113, .move (.tmp 1), none⟩,
    ⟨some 114, .move (.tmp 10), none⟩,
    ⟨some 115, .call ⟨.value (.func 47), #[(.tmp 113), (.tmp 114), (.const (.bool true))], #[23, 3, 4]⟩, none⟩,
    ⟨some 112, .move (.tmp 115), none⟩,
    ⟨some 116, .extract (.tmp 112) 0, none⟩,
    ⟨some 117, .extract (.tmp 112) 1, none⟩,
    ⟨some 10, .assign (.tmp 116), none⟩,
    ⟨some 11, .assign (.tmp 117), none⟩]
def tail_27_16 : C2 :=
  .seq (.seq (.ops [⟨some 13, .assign (.const (.int .i64 (0))), none⟩])
  tail_27_14)
  tail_27_15
def tail_27_17 : C2 :=
  .block 1 (.seq (.seq (.ops [⟨some 12, .assign (.const (.int .i64 (0))), none⟩])
  tail_27_6)
  tail_27_16)
def tail_27_18 : C2 :=
  .seq (.ops [⟨some 118, .move (.tmp 9), none⟩,
    ⟨some 8, .assign (.tmp 118), none⟩]) (.ret)
def tail_27_19 : C2 :=
  .seq (.block 0 (.loop (.seq (.seq (.ops [⟨some 23, .move (.tmp 11), none⟩,
    ⟨some 24, .move (.tmp 23), none⟩,
    ⟨some 25, .move (.tmp 3), some (24, true)⟩,
    ⟨some 26, .move (.tmp 25), some (24, true)⟩,
    ⟨some 27, .move (.tmp 10), some (26, false)⟩,
    ⟨some 28, .move (.tmp 2), some (26, false)⟩,
    ⟨some 29, .binOp .leq 3 (.tmp 27) (.tmp 28) 3, some (26, false)⟩,
    ⟨some 30, .pick (.tmp 26) (.const (.bool true)) (.tmp 29), some (24, true)⟩,
    ⟨some 31, .pick (.tmp 24) (.tmp 30) (.const (.bool false)), none⟩])
  tail_27_1)
  tail_27_17)))
  tail_27_18
def tail_27_20 : C2 :=
  .seq (.ops [⟨some 19, .move (.tmp 1), none⟩,
    ⟨some 20, .call ⟨.value (.func 47), #[(.tmp 19), (.const (.int .i64 (0))), (.const (.bool false))], #[23, 3, 4]⟩, none⟩,
    ⟨some 18, .move (.tmp 20), none⟩,
    ⟨some 21, .extract (.tmp 18) 0, none⟩,
    ⟨some 22, .extract (.tmp 18) 1, none⟩,
    ⟨some 10, .assign (.tmp 21), none⟩,
    ⟨some 11, .assign (.tmp 22), none⟩])
  tail_27_19
def tail_27_21 : C2 :=
  .seq (.ops [⟨some 15, .buildSlice 22 0 #[], none⟩,
    ⟨some 16, .move (.tmp 0), none⟩,
    ⟨some 17, .call ⟨.builtin .append, #[(.tmp 15), (.tmp 16)], #[22, 22]⟩, none⟩,
    ⟨some 9, .assign (.tmp 17), none⟩])
  tail_27_20
def code_27 : C2 :=
  .seq (.ops [⟨some 8, .assign (.const (.slice none 0 0)), none⟩])
  tail_27_21
theorem cmp_27 : Cmp Try.prog 27 119 code_27 [.tmp 8] := Cmp.of [] Try.func27 rfl rfl (by kernel_rfl) rfl
def code_28 : C2 :=
  .seq (.ops [⟨some 3, .assign (.const (.bool false)), none⟩])
  (.seq (.ops [⟨some 4, .move (.tmp 0), none⟩,
    ⟨some 5, .load 3 (.tmp 1), none⟩,
    ⟨some 6, .binOp .leq 3 (.tmp 4) (.tmp 5) 3, none⟩,
    ⟨some 3, .assign (.tmp 6), none⟩])
  (.ret))
theorem cmp_28 : Cmp Try.prog 28 7 code_28 [.tmp 3] := Cmp.of [] Try.func28 rfl rfl (by kernel_rfl) rfl
def code_29 : C2 :=
  .seq (.ops [⟨some 2, .assign (.const (.bool false)), none⟩])
  (.seq (.ops [⟨some 2, .assign (.const (.bool true)), none⟩])
  (.ret))
theorem cmp_29 : Cmp Try.prog 29 3 code_29 [.tmp 2] := Cmp.of [] Try.func29 rfl rfl (by kernel_rfl) rfl
def code_41 : C2 :=
  .seq (.ops [⟨some 1, .box 53 (.tmp 0), none⟩,
    ⟨some 2, .assign (.const (.bool false)), none⟩])
  (.seq (.ops [⟨some 3, .fieldAddr 53 (.tmp 1) 5, none⟩,
    ⟨some 4, .load 4 (.tmp 3), none⟩,
    ⟨some 5, .move (.tmp 4), none⟩,
    ⟨some 6, .fieldAddr 53 (.tmp 1) 7, some (5, true)⟩,
    ⟨some 7, .load 51 (.tmp 6), some (5, true)⟩,
    ⟨some 8, .call ⟨.builtin .len, #[(.tmp 7)], #[51]⟩, some (5, true)⟩,
    ⟨some 9, .binOp .gtr 3 (.tmp 8) (.const (.int .i64 (0))) 3, some (5, true)⟩,
    ⟨some 10, .pick (.tmp 5) (.tmp 9) (.const (.bool false)), none⟩,
    ⟨some 2, .assign (.tmp 10), none⟩])
  (.ret))
theorem cmp_41 : Cmp Try.prog 41 11 code_41 [.tmp 2] := Cmp.of [] Try.func41 rfl rfl (by kernel_rfl) rfl
def code_42 : C2 :=
  .ops [⟨some 4, .move (.tmp 0), none⟩,
    ⟨some 5, .move (.tmp 0), none⟩,
    ⟨some 6, .call ⟨.builtin .len, #[(.tmp 5)], #[56]⟩, none⟩,
    ⟨some 7, .move (.tmp 1), none⟩,
    ⟨some 8, .call ⟨.value (.func 61), #[(.tmp 4), (.tmp 6), (.tmp 7)], #[56, 3, 77]⟩, none⟩]
theorem cmp_42 : Cmp Try.prog 42 9 code_42 [] := Cmp.of [] Try.func42 rfl rfl (by kernel_rfl) rfl
def code_43 : C2 :=
  .seq (.ops [⟨some 2, .box 74 (.tmp 0), none⟩,
    ⟨some 3, .box 74 (.tmp 1), none⟩,
    ⟨some 4, .assign (.const (.int .i64 (0))), none⟩])
  (.seq (.seq (.ops [⟨some 5, .fieldAddr 74 (.tmp 2) 0, none⟩,
    ⟨some 6, .load 3 (.tmp 5), none⟩,
    ⟨some 7, .fieldAddr 74 (.tmp 3) 0, none⟩,
    ⟨some 8, .load 3 (.tmp 7), none⟩,
    ⟨some 9, .binOp .neq 3 (.tmp 6) (.tmp 8) 3, none⟩])
  (.cond (.tmp 9) (.seq (.ops [⟨some 10, .fieldAddr 74 (.tmp 2) 0, none⟩,
      ⟨some 11, .load 3 (.tmp 10), none⟩,
      ⟨some 12, .fieldAddr 74 (.tmp 3) 0, none⟩,
      ⟨some 13, .load 3 (.tmp 12), none⟩,
      ⟨some 14, .call ⟨.value (.func 44), #[(.tmp 11), (.tmp 13)], #[3, 3]⟩, none⟩,
      ⟨some 4, .assign (.tmp 14), none⟩])
    (.ret))
    (.skip)))
  (.seq (.block 0 (.seq (.ops [⟨some 16, .fieldAddr 74 (.tmp 2) 1, none⟩,
      ⟨some 17, .load 4 (.tmp 16), none⟩,
      ⟨some 18, .move (.tmp 17), none⟩,
      ⟨some 19, .fieldAddr 74 (.tmp 3) 1, some (18, true)⟩,
      ⟨some 20, .load 4 (.tmp 19), some (18, true)⟩,
      ⟨some 21, .unOp .not 4 (.tmp 20), some (18, true)⟩,
      ⟨some 22, .pick (.tmp 18) (.tmp 21) (.const (.bool false)), none⟩,
      ⟨some 15, .assign (.tmp 22), none⟩])
    (.cond (.tmp 15) (.seq (.ops [⟨some 4, .assign (.const (.int .i64 (-1))), none⟩])
      (.ret))
      (.seq (.ops [⟨some 24, .fieldAddr 74 (.tmp 3) 1, none⟩,
        ⟨some 25, .load 4 (.tmp 24), none⟩,
        ⟨some 26, .move (.tmp 25), none⟩,
        ⟨some 27, .fieldAddr 74 (.tmp 2) 1, some (26, true)⟩,
        ⟨some 28, .load 4 (.tmp 27), some (26, true)⟩,
        ⟨some 29, .unOp .not 4 (.tmp 28), some (26, true)⟩,
        ⟨some 30, .pick (.tmp 26) (.tmp 29) (.const (.bool false)), none⟩,
        ⟨some 23, .assign (.tmp 30), none⟩])
      (.cond (.tmp 23) (.seq (.ops [⟨some 4, .assign (.const (.int .i64 (1))), none⟩])
        (.ret))
        (.skip))))))
  (.seq (.ops [⟨some 4, .assign (.const (.int .i64 (0))), none⟩])
  (.ret))))
theorem cmp_43 : Cmp Try.prog 43 31 code_43 [.tmp 4] := Cmp.of [] Try.func43 rfl rfl (by kernel_rfl) rfl
def code_44 : C2 :=
  .seq (.ops [⟨some 4, .assign (.const (.int .i64 (0))), none⟩])
  (.seq (.ops [⟨some 7, .move (.tmp 0), none⟩,
    ⟨some 8, .call ⟨.value (.func 62), #[(.tmp 7)], #[3]⟩, none⟩,
    ⟨some 5, .assign (.tmp 8), none⟩])
  (.seq (.ops [⟨some 9, .move (.tmp 1), none⟩,
    ⟨some 10, .call ⟨.value (.func 62), #[(.tmp 9)], #[3]⟩, none⟩,
    ⟨some 6, .assign (.tmp 10), none⟩])
  (.seq (.seq (.ops [⟨some 11, .move (.tmp 5), none⟩])
  (.cond (.tmp 11) (.seq (.seq (.ops [⟨some 12, .move (.tmp 6), none⟩])
    (.cond (.tmp 12) (.seq (.ops [⟨some 4, .assign (.const (.int .i64 (0))), none⟩])
      (.ret))
      (.skip)))
    (.seq (.ops [⟨some 4, .assign (.const (.int .i64 (-1))), none⟩])
    (.ret)))
    (.skip)))
  (.seq (.seq (.ops [⟨some 13, .move (.tmp 6), none⟩])
  (.cond (.tmp 13) (.seq (.ops [⟨some 4, .assign (.const (.int .i64 (1))), none⟩])
    (.ret))
    (.skip)))
  (.seq (.seq (.ops [⟨some 14, .move (.tmp 0), none⟩,
    ⟨some 15, .move (.tmp 1), none⟩,
    ⟨some 16, .binOp .lss 3 (.tmp 14) (.tmp 15) 3, none⟩])
  (.cond (.tmp 16) (.seq (.ops [⟨some 4, .assign (.const (.int .i64 (-1))), none⟩])
    (.ret))
    (.skip)))
  (.seq (.seq (.ops [⟨some 17, .move (.tmp 0), none⟩,
    ⟨some 18, .move (.tmp 1), none⟩,
    ⟨some 19, .binOp .gtr 3 (.tmp 17) (.tmp 18) 3, none⟩])
  (.cond (.tmp 19) (.seq (.ops [⟨some 4, .assign (.const (.int .i64 (1))), none⟩])
    (.ret))
    (.skip)))
  (.seq (.ops [⟨some 4, .assign (.const (.int .i64 (0))), none⟩])
  (.ret))))))))
theorem cmp_44 : Cmp Try.prog 44 20 code_44 [.tmp 4] := Cmp.of [] Try.func44 rfl rfl (by kernel_rfl) rfl
def code_45 : C2 :=
  .seq (.ops [⟨some 2, .assign (.const (.slice none 0 0)), none⟩])
  (.seq (.seq (.ops [⟨some 3, .move (.tmp 0), none⟩,
    ⟨some 4, .binOp .eql 22 (.tmp 3) (.const (.slice none 0 0)) 22, none⟩])
  (.cond (.tmp 4) (.seq (.ops [⟨some 2, .assign (.const (.slice none 0 0)), none⟩])
    (.ret))
    (.skip)))
  (.seq (.ops [⟨some 5, .buildSlice 22 0 #[], none⟩,
    ⟨some 6, .move (.tmp 0), none⟩,
    ⟨some 7, .call ⟨.builtin .append, #[(.tmp 5), (.tmp 6)], #[22, 22]⟩, none⟩,
    ⟨some 2, .assign (.tmp 7), none⟩])
  (.ret)))
theorem cmp_45 : Cmp Try.prog 45 8 code_45 [.tmp 2] := Cmp.of [] Try.func45 rfl rfl (by kernel_rfl) rfl
def code_46 : C2 :=
  .seq (.ops [⟨some 1, .box 53 (.tmp 0), none⟩,
    ⟨some 2, .assign (.const (.bool false)), none⟩])
  (.seq (.ops [⟨some 3, .fieldAddr 53 (.tmp 1) 5, none⟩,
    ⟨some 4, .load 4 (.tmp 3), none⟩,
    ⟨some 5, .move (.tmp 4), none⟩,
    ⟨some 6, .fieldAddr 53 (.tmp 1) 7, some (5, true)⟩,
    ⟨some 7, .load 51 (.tmp 6), some (5, true)⟩,
    ⟨some 8, .call ⟨.builtin .len, #[(.tmp 7)], #[51]⟩, some (5, true)⟩,
    ⟨some 9, .binOp .gtr 3 (.tmp 8) (.const (.int .i64 (0))) 3, some (5, true)⟩,
    ⟨some 10, .pick (.tmp 5) (.tmp 9) (.const (.bool false)), none⟩,
    ⟨some 2, .assign (.tmp 10), none⟩])
  (.ret))
theorem cmp_46 : Cmp Try.prog 46 11 code_46 [.tmp 2] := Cmp.of [] Try.func46 rfl rfl (by kernel_rfl) rfl
def tail_47_1 : C2 :=
  .cond (.tmp 15) (.skip)
  (.exit 0)
def tail_47_2 : C2 :=
  .cond (.tmp 43) (.ops [⟨some 44, .fieldAddr 53 (.tmp 11) 2, none⟩,
    ⟨some 45, .load 3 (.tmp 44), none⟩,
    ⟨some 8, .assign (.tmp 45), none⟩,
    ⟨some 9, .assign (.const (.bool true)), none⟩])
  (.skip)
def tail_47_3 : C2 :=
  .cond (.tmp 67) (.ops [⟨some 68, .fieldAddr 53 (.tmp 11) 3, none⟩,
    ⟨some 69, .load 3 (.tmp 68), none⟩,
    ⟨some 8, .assign (.tmp 69), none⟩,
    ⟨some 9, .assign (.const (.bool true)), none⟩])
  (.skip)
def tail_47_4 : C2 :=
  .seq (.ops [⟨some 46, .load 53 (.tmp 11), none⟩,
    ⟨some 47, .call ⟨.value (.func 46), #[(.tmp 46)], #[53]⟩, none⟩,
    ⟨some 48, .move (.tmp 47), none⟩,
    ⟨some 49, .move (.tmp 2), some (48, true)⟩,
    ⟨some 50, .unOp .not 4 (.tmp 49), some (48, true)⟩,
    ⟨some 51, .move (.tmp 50), some (48, true)⟩,
    ⟨some 52, .fieldAddr 53 (.tmp 11) 3, some (51, false)⟩,
    ⟨some 53, .load 3 (.tmp 52), some (51, false)⟩,
    ⟨some 54, .move (.tmp 1), some (51, false)⟩,
    ⟨some 55, .binOp .gtr 3 (.tmp 53) (.tmp 54) 3, some (51, false)⟩,
    ⟨some 56, .pick (.tmp 51) (.const (.bool true)) (.tmp 55), some (48, true)⟩,
    ⟨some 57, .pick (.tmp 48) (.tmp 56) (.const (.bool false)), none⟩,
    ⟨some 58, .move (.tmp 57), none⟩,
    ⟨some 59, .move (.tmp 9), some (58, true)⟩,
    ⟨some 60, .unOp .not 4 (.tmp 59), some (58, true)⟩,
    ⟨some 61, .move (.tmp 60), some (58, true)⟩,
    ⟨some 62, .fieldAddr 53 (.tmp 11) 3, some (61, false)⟩,
    ⟨some 63, .load 3 (.tmp 62), some (61, false)⟩,
    ⟨some 64, .move (.tmp 8), some (61, false)⟩,
    ⟨some 65, .binOp .lss 3 (.tmp 63) (.tmp 64) 3, some (61, false)⟩,
    ⟨some 66, .pick (.tmp 61) (.const (.bool true)) (.tmp 65), some (58, true)⟩,
    ⟨some 67, .pick (.tmp 58) (.tmp 66) (.const (.bool false)), none⟩])
  tail_47_3
def tail_47_5 : C2 :=
  .seq (.seq (.ops [⟨some 22, .load 53 (.tmp 11), none⟩,
    ⟨some 23, .call ⟨.value (.func 48), #[(.tmp 22)], #[53]⟩, none⟩,
    ⟨some 24, .move (.tmp 23), none⟩,
    ⟨some 25, .move (.tmp 2), some (24, true)⟩,
    ⟨some 26, .unOp .not 4 (.tmp 25), some (24, true)⟩,
    ⟨some 27, .move (.tmp 26), some (24, true)⟩,
    ⟨some 28, .fieldAddr 53 (.tmp 11) 2, some (27, false)⟩,
    ⟨some 29, .load 3 (.tmp 28), some (27, false)⟩,
    ⟨some 30, .move (.tmp 1), some (27, false)⟩,
    ⟨some 31, .binOp .gtr 3 (.tmp 29) (.tmp 30) 3, some (27, false)⟩,
    ⟨some 32, .pick (.tmp 27) (.const (.bool true)) (.tmp 31), some (24, true)⟩,
    ⟨some 33, .pick (.tmp 24) (.tmp 32) (.const (.bool false)), none⟩,
    ⟨some 34, .move (.tmp 33), none⟩,
    ⟨some 35, .move (.tmp 9), some (34, true)⟩,
    ⟨some 36, .unOp .not 4 (.tmp 35), some (34, true)⟩,
    ⟨some 37, .move (.tmp 36), some (34, true)⟩,
    ⟨some 38, .fieldAddr 53 (.tmp 11) 2, some (37, false)⟩,
    ⟨some 39, .load 3 (.tmp 38), some (37, false)⟩,
    ⟨some 40, .move (.tmp 8), some (37, false)⟩,
    ⟨some 41, .binOp .lss 3 (.tmp 39) (.tmp 40) 3, some (37, false)⟩,
    ⟨some 42, .pick (.tmp 37) (.const (.bool true)) (.tmp 41), some (34, true)⟩,
    ⟨some 43, .pick (.tmp 34) (.tmp 42) (.const (.bool false)), none⟩])
  tail_47_2)
  tail_47_4
def tail_47_6 : C2 :=
  .ops [⟨some 16, .move (.tmp 10), none⟩,
    ⟨some 17, .binOp .add 3 (.tmp 16) (.const (.int .i64 (1))) 3, none⟩,
    ⟨some 10, .assign (.tmp 17), none⟩]
def tail_47_7 : C2 :=
  .seq (.block 1 (.seq (.ops [⟨some 18, .move (.tmp 0), none⟩,
    ⟨some 19, .move (.tmp 10), none⟩,
    ⟨some 20, .indexAddr 23 (.tmp 18) (.tmp 19), none⟩,
    ⟨some 21, .load 53 (.tmp 20), none⟩,
    ⟨some 11, .alloc 53, none⟩,
    ⟨none, .store 53 (.tmp 11) (.tmp 21), none⟩])
  tail_47_5))
  tail_47_6
def tail_47_8 : C2 :=
  .block 0 (.loop (.seq (.seq (.ops [⟨some 12, .move (.tmp 10), none⟩,
    ⟨some 13, .move (.tmp 0), none⟩,
    ⟨some 14, .call ⟨.builtin .len, #[(.tmp 13)], #[23]⟩, none⟩,
    ⟨some 15, .binOp .lss 3 (.tmp 12) (.tmp 14) 3, none⟩])
  tail_47_1)
  tail_47_7))
def tail_47_9 : C2 :=
  .seq (.ops [⟨some 70, .move (.tmp 8), none⟩,
    ⟨some 71, .move (.tmp 9), none⟩,
    ⟨some 6, .assign (.tmp 70), none⟩,
    ⟨some 7, .assign (.tmp 71), none⟩]) (.ret)
def tail_47_10 : C2 :=
  .seq (.seq (.ops [⟨some 10, .assign (.const (.int .i64 (0))), none⟩])
  tail_47_8)
  tail_47_9
def tail_47_11 : C2 :=
  .seq (.ops [⟨some 8, .assign (.const (.int .i64 (0))), none⟩,
    ⟨some 9, .assign (.const (.bool false)), none⟩])
  tail_47_10
def code_47 : C2 :=
  .seq (.ops [⟨some 6, .assign (.const (.int .i64 (0))), none⟩,
    ⟨some 7, .assign (.const (.bool false)), none⟩])
  tail_47_11
theorem cmp_47 : Cmp Try.prog 47 72 code_47 [.tmp 6, .tmp 7] := Cmp.of [] Try.func47 rfl rfl (by kernel_rfl) rfl
def code_48 : C2 :=
  .seq (.ops [⟨some 1, .box 53 (.tmp 0), none⟩,
    ⟨some 2, .assign (.const (.bool false)), none⟩])
  (.seq (.ops [⟨some 3, .fieldAddr 53 (.tmp 1) 4, none⟩,
    ⟨some 4, .load 4 (.tmp 3), none⟩,
    ⟨some 5, .move (.tmp 4), none⟩,
    ⟨some 6, .fieldAddr 53 (.tmp 1) 2, some (5, true)⟩,
    ⟨some 7, .load 3 (.tmp 6), some (5, true)⟩,
    ⟨some 8, .binOp .gtr 3 (.tmp 7) (.const (.int .i64 (0))) 3, some (5, true)⟩,
    ⟨some 9, .pick (.tmp 5) (.tmp 8) (.const (.bool false)), none⟩,
    ⟨some 2, .assign (.tmp 9), none⟩])
  (.ret))
theorem cmp_48 : Cmp Try.prog 48 10 code_48 [.tmp 2] := Cmp.of [] Try.func48 rfl rfl (by kernel_rfl) rfl
def code_61 : C2 :=
  .seq (.ops [⟨some 6, .assign (.const (.int .i64 (20))), none⟩])
  (.seq (.ops [⟨some 10, .move (.tmp 6), none⟩,
    ⟨some 7, .assign (.const (.int .i64 (0))), none⟩,
    ⟨some 8, .assign (.tmp 10), none⟩])
  (.seq (.block 0 (.loop (.seq (.seq (.ops [⟨some 11, .move (.tmp 8), none⟩,
        ⟨some 12, .move (.tmp 1), none⟩,
        ⟨some 13, .binOp .leq 3 (.tmp 11) (.tmp 12) 3, none⟩])
      (.cond (.tmp 13) (.skip)
        (.exit 0)))
      (.block 1 (.seq (.ops [⟨some 14, .move (.tmp 0), none⟩,
          ⟨some 15, .move (.tmp 7), none⟩,
          ⟨some 16, .move (.tmp 8), none⟩,
          ⟨some 17, .move (.tmp 2), none⟩,
          ⟨some 18, .call ⟨.value (.func 69), #[(.tmp 14), (.tmp 15), (.tmp 16), (.tmp 17)], #[56, 3, 3, 77]⟩, none⟩])
        (.seq (.ops [⟨some 19, .move (.tmp 8), none⟩,
          ⟨some 7, .assign (.tmp 19), none⟩])
        (.ops [⟨some 20, .move (.tmp 8), none⟩,
          ⟨some 21, .move (.tmp 6), none⟩,
          ⟨some 22, .binOp .add 3 (.tmp 20) (.tmp 21) 3, none⟩,
          ⟨some 8, .assign (.tmp 22), none⟩])))))))
  (.seq (.ops [⟨some 23, .move (.tmp 0), none⟩,
    ⟨some 24, .move (.tmp 7), none⟩,
    ⟨some 25, .move (.tmp 1), none⟩,
    ⟨some 26, .move (.tmp 2), none⟩,
    ⟨some 27, .call ⟨.value (.func 69), #[(.tmp 23), (.tmp 24), (.tmp 25), (.tmp 26)], #[56, 3, 3, 77]⟩, none⟩])
  (.block 2 (.loop (.seq (.seq (.ops [⟨some 28, .move (.tmp 6), none⟩,
        ⟨some 29, .move (.tmp 1), none⟩,
        ⟨some 30, .binOp .lss 3 (.tmp 28) (.tmp 29) 3, none⟩])
      (.cond (.tmp 30) (.skip)
        (.exit 2)))
      (.block 3 (.seq (.ops [⟨some 31, .move (.tmp 6), none⟩,
          ⟨some 32, .binOp .mul 3 (.const (.int .i64 (2))) (.tmp 31) 3, none⟩,
          ⟨some 7, .assign (.const (.int .i64 (0))), none⟩,
          ⟨some 8, .assign (.tmp 32), none⟩])
        (.seq (.block 4 (.loop (.seq (.seq (.ops [⟨some 33, .move (.tmp 8), none⟩,
              ⟨some 34, .move (.tmp 1), none⟩,
              ⟨some 35, .binOp .leq 3 (.tmp 33) (.tmp 34) 3, none⟩])
            (.cond (.tmp 35) (.skip)
              (.exit 4)))
            (.block 5 (.seq (.ops [⟨some 36, .move (.tmp 0), none⟩,
                ⟨some 37, .move (.tmp 7), none⟩,
                ⟨some 38, .move (.tmp 7), none⟩,
                ⟨some 39, .move (.tmp 6), none⟩,
                ⟨some 40, .binOp .add 3 (.tmp 38) (.tmp 39) 3, none⟩,
                ⟨some 41, .move (.tmp 8), none⟩,
                ⟨some 42, .move (.tmp 2), none⟩,
                ⟨some 43, .call ⟨.value (.func 70), #[(.tmp 36), (.tmp 37), (.tmp 40), (.tmp 41), (.tmp 42)], #[56, 3, 3, 3, 77]⟩, none⟩])
              (.seq (.ops [⟨some 44, .move (.tmp 8), none⟩,
                ⟨some 7, .assign (.tmp 44), none⟩])
              (.ops [⟨some 45, .move (.tmp 8), none⟩,
                ⟨some 46, .move (.tmp 6), none⟩,
                ⟨some 47, .binOp .mul 3 (.const (.int .i64 (2))) (.tmp 46) 3, none⟩,
                ⟨some 48, .binOp .add 3 (.tmp 45) (.tmp 47) 3, none⟩,
                ⟨some 8, .assign (.tmp 48), none⟩])))))))
        (.seq (.seq (.ops [⟨some 49, .move (.tmp 7), none⟩,
          ⟨some 50, .move (.tmp 6), none⟩,
          ⟨some 51, .binOp .add 3 (.tmp 49) (.tmp 50) 3, none⟩,
          ⟨some 9, .assign (.tmp 51), none⟩])
        (.seq (.ops [⟨some 52, .move (.tmp 9), none⟩,
          ⟨some 53, .move (.tmp 1), none⟩,
          ⟨some 54, .binOp .lss 3 (.tmp 52) (.tmp 53) 3, none⟩])
        (.cond (.tmp 54) (.ops [⟨some 55, .move (.tmp 0), none⟩,
            ⟨some 56, .move (.tmp 7), none⟩,
            ⟨some 57, .move (.tmp 9), none⟩,
            ⟨some 58, .move (.tmp 1), none⟩,
            ⟨some 59, .move (.tmp 2), none⟩,
            ⟨some 60, .call ⟨.value (.func 70), #[(.tmp 55), (.tmp 56), (.tmp 57), (.tmp 58), (.tmp 59)], #[56, 3, 3, 3, 77]⟩, none⟩])
          (.skip))))
        (.ops [⟨some 61, .move (.tmp 6), none⟩,
          ⟨some 62, .binOp .mul 3 (.tmp 61) (.const (.int .i64 (2))) 3, none⟩,
          ⟨some 6, .assign (.tmp 62), none⟩])))))))))))
theorem cmp_61 : Cmp Try.prog 61 63 code_61 [] := Cmp.of [] Try.func61 rfl rfl (by kernel_rfl) rfl
def code_62 : C2 :=
  .seq (.ops [⟨some 2, .assign (.const (.bool false)), none⟩])
  (.seq (.ops [⟨some 3, .move (.tmp 0), none⟩,
    ⟨some 4, .move (.tmp 0), none⟩,
    ⟨some 5, .binOp .neq 3 (.tmp 3) (.tmp 4) 3, none⟩,
    ⟨some 2, .assign (.tmp 5), none⟩])
  (.ret))
theorem cmp_62 : Cmp Try.prog 62 6 code_62 [.tmp 2] := Cmp.of [] Try.func62 rfl rfl (by kernel_rfl) rfl
def code_69 : C2 :=
  .seq (.ops [⟨some 10, .move (.tmp 1), none⟩,
    ⟨some 11, .binOp .add 3 (.tmp 10) (.const (.int .i64 (1))) 3, none⟩,
    ⟨some 8, .assign (.tmp 11), none⟩])
  (.block 0 (.loop (.seq (.seq (.ops [⟨some 12, .move (.tmp 8), none⟩,
        ⟨some 13, .move (.tmp 2), none⟩,
        ⟨some 14, .binOp .lss 3 (.tmp 12) (.tmp 13) 3, none⟩])
      (.cond (.tmp 14) (.skip)
        (.exit 0)))
      (.seq (.block 1 (.seq (.ops [⟨some 17, .move (.tmp 8), none⟩,
          ⟨some 9, .assign (.tmp 17), none⟩])
        (.block 2 (.loop (.seq (.seq (.drawn [⟨some 18, .move (.tmp 9), none⟩,
              ⟨some 19, .move (.tmp 1), none⟩,
              ⟨some 20, .binOp .gtr 3 (.tmp 18) (.tmp 19) 3, none⟩,
              ⟨some 21, .move (.tmp 20), none⟩,
              ⟨some 22, .move (.tmp 3), some (21, true)⟩,
              ⟨some 23, .move (.tmp 0), some (21, true)⟩,
              ⟨some 24, .move (.tmp 9), some (21, true)⟩,
              ⟨some 25, .indexAddr 56 (.tmp 23) (.tmp 24), some (21, true)⟩,
              ⟨some 26, .load 74 (.tmp 25), some (21, true)⟩,
              ⟨some 27, .move (.tmp 0), some (21, true)⟩,
              ⟨some 28, .move (.tmp 9), some (21, true)⟩,
              ⟨some 29, .binOp .sub 3 (.tmp 28) (.const (.int .i64 (1))) 3, some (21, true)⟩,
              ⟨some 30, .indexAddr 56 (.tmp 27) (.tmp 29), some (21, true)⟩,
              ⟨some 31, .load 74 (.tmp 30), some (21, true)⟩,
              ⟨some 32, .call ⟨.value (.tmp 22), #[(.tmp 26), (.tmp 31)], #[74, 74]⟩, some (21, true)⟩,
              ⟨some 33, .binOp .lss 3 (.tmp 32) (.const (.int .i64 (0))) 3, some (21, true)⟩,
              ⟨some 34, .pick (.tmp 21) (.tmp 33) (.const (.bool false)), none⟩])
            (.cond (.tmp 34) (.skip)
              (.exit 2)))
            (.seq (.block 3 (.drawn [⟨some 37, .move (.tmp 0), none⟩,
                ⟨some 38, .move (.tmp 9), none⟩,
                ⟨some 39, .move (.tmp 0), none⟩,
                ⟨some 40, .move (.tmp 9), none⟩,
                ⟨some 41, .binOp .sub 3 (.tmp 40) (.const (.int .i64 (1))) 3, none⟩,
                ⟨some 42, .move (.tmp 0), none⟩,
                ⟨some 43, .move (.tmp 9), none⟩,
                ⟨some 44, .binOp .sub 3 (.tmp 43) (.const (.int .i64 (1))) 3, none⟩,
                ⟨some 45, .indexAddr 56 (.tmp 42) (.tmp 44), none⟩,
                ⟨some 46, .load 74 (.tmp 45), none⟩,
                ⟨some 47, .move (.tmp 0), none⟩,
                ⟨some 48, .move (.tmp 9), none⟩,
                ⟨some 49, .indexAddr 56 (.tmp 47) (.tmp 48), none⟩,
                ⟨some 50, .load 74 (.tmp 49), none⟩,
                ⟨some 51, .indexAddr 56 (.tmp 37) (.tmp 38), none⟩,
                ⟨none, .store 74 (.tmp 51) (.tmp 46), none⟩,
                ⟨some 52, .indexAddr 56 (.tmp 39) (.tmp 41), none⟩,
                ⟨none, .store 74 (.tmp 52) (.tmp 50), none⟩]))
            (.ops [⟨some 35, .move (.tmp 9), none⟩,
              ⟨some 36, .binOp .sub 3 (.tmp 35) (.const (.int .i64 (1))) 3, none⟩,
              ⟨some 9, .assign (.tmp 36), none⟩])))))))
      (.ops [⟨some 15, .move (.tmp 8), none⟩,
        ⟨some 16, .binOp .add 3 (.tmp 15) (.const (.int .i64 (1))) 3, none⟩,
        ⟨some 8, .assign (.tmp 16), none⟩])))))
theorem cmp_69 : Cmp Try.prog 69 53 code_69 [] := Cmp.of [] Try.func69 rfl rfl (by kernel_rfl) rfl
def tail_70_12 : C2 :=
  .cond (.tmp 213) (.ops [⟨some 214, .move (.tmp 0), none⟩,
      ⟨some 215, .move (.tmp 18), none⟩,
      ⟨some 216, .move (.tmp 24), none⟩,
      ⟨some 217, .move (.tmp 3), none⟩,
      ⟨some 218, .move (.tmp 4), none⟩,
      ⟨some 219, .call ⟨.value (.func 70), #[(.tmp 214), (.tmp 215), (.tmp 216), (.tmp 217), (.tmp 218)], #[56, 3, 3, 3, 77]⟩, none⟩])
    (.skip)
def tail_70_11 : C2 :=
  .seq (.ops [⟨some 206, .move (.tmp 18), none⟩,
    ⟨some 207, .move (.tmp 24), none⟩,
    ⟨some 208, .binOp .lss 3 (.tmp 206) (.tmp 207) 3, none⟩,
    ⟨some 209, .move (.tmp 208), none⟩,
    ⟨some 210, .move (.tmp 24), some (209, true)⟩,
    ⟨some 211, .move (.tmp 3), some (209, true)⟩,
    ⟨some 212, .binOp .lss 3 (.tmp 210) (.tmp 211) 3, some (209, true)⟩,
    ⟨some 213, .pick (.tmp 209) (.tmp 212) (.const (.bool false)), none⟩])
  tail_70_12
def tail_70_10 : C2 :=
  .seq (.seq (.ops [⟨some 192, .move (.tmp 1), none⟩,
    ⟨some 193, .move (.tmp 20), none⟩,
    ⟨some 194, .binOp .lss 3 (.tmp 192) (.tmp 193) 3, none⟩,
    ⟨some 195, .move (.tmp 194), none⟩,
    ⟨some 196, .move (.tmp 20), some (195, true)⟩,
    ⟨some 197, .move (.tmp 18), some (195, true)⟩,
    ⟨some 198, .binOp .lss 3 (.tmp 196) (.tmp 197) 3, some (195, true)⟩,
    ⟨some 199, .pick (.tmp 195) (.tmp 198) (.const (.bool false)), none⟩])
  (.cond (.tmp 199) (.ops [⟨some 200, .move (.tmp 0), none⟩,
      ⟨some 201, .move (.tmp 1), none⟩,
      ⟨some 202, .move (.tmp 20), none⟩,
      ⟨some 203, .move (.tmp 18), none⟩,
      ⟨some 204, .move (.tmp 4), none⟩,
      ⟨some 205, .call ⟨.value (.func 70), #[(.tmp 200), (.tmp 201), (.tmp 202), (.tmp 203), (.tmp 204)], #[56, 3, 3, 3, 77]⟩, none⟩])
    (.skip)))
  tail_70_11
def tail_70_9 : C2 :=
  .seq (.seq (.ops [⟨some 178, .move (.tmp 20), none⟩,
    ⟨some 179, .move (.tmp 2), none⟩,
    ⟨some 180, .binOp .lss 3 (.tmp 178) (.tmp 179) 3, none⟩,
    ⟨some 181, .move (.tmp 180), none⟩,
    ⟨some 182, .move (.tmp 2), some (181, true)⟩,
    ⟨some 183, .move (.tmp 24), some (181, true)⟩,
    ⟨some 184, .binOp .lss 3 (.tmp 182) (.tmp 183) 3, some (181, true)⟩,
    ⟨some 185, .pick (.tmp 181) (.tmp 184) (.const (.bool false)), none⟩])
  (.cond (.tmp 185) (.ops [⟨some 186, .move (.tmp 0), none⟩,
      ⟨some 187, .move (.tmp 20), none⟩,
      ⟨some 188, .move (.tmp 2), none⟩,
      ⟨some 189, .move (.tmp 24), none⟩,
      ⟨some 190, .move (.tmp 4), none⟩,
      ⟨some 191, .call ⟨.value (.func 73), #[(.tmp 186), (.tmp 187), (.tmp 188), (.tmp 189), (.tmp 190)], #[56, 3, 3, 3, 77]⟩, none⟩])
    (.skip)))
  tail_70_10
def tail_70_8 : C2 :=
  .seq (.ops [⟨some 175, .move (.tmp 19), none⟩,
    ⟨some 176, .move (.tmp 20), none⟩,
    ⟨some 177, .binOp .sub 3 (.tmp 175) (.tmp 176) 3, none⟩,
    ⟨some 24, .assign (.tmp 177), none⟩])
  tail_70_9
def tail_70_7 : C2 :=
  .seq (.block 8 (.loop (.seq (.seq (.ops [⟨some 149, .move (.tmp 20), none⟩,
        ⟨some 150, .move (.tmp 21), none⟩,
        ⟨some 151, .binOp .lss 3 (.tmp 149) (.tmp 150) 3, none⟩])
      (.cond (.tmp 151) (.skip)
        (.exit 8)))
      (.block 9 (.seq (.ops [⟨some 152, .move (.tmp 20), none⟩,
          ⟨some 153, .move (.tmp 21), none⟩,
          ⟨some 154, .binOp .add 3 (.tmp 152) (.tmp 153) 3, none⟩,
          ⟨some 155, .convert 3 127 (.tmp 154), none⟩,
          ⟨some 156, .binOp .shr 127 (.tmp 155) (.const (.int .u64 (1))) 127, none⟩,
          ⟨some 157, .convert 127 3 (.tmp 156), none⟩,
          ⟨some 23, .assign (.tmp 157), none⟩])
        (.seq (.drawn [⟨some 158, .move (.tmp 4), none⟩,
          ⟨some 159, .move (.tmp 0), none⟩,
          ⟨some 160, .move (.tmp 22), none⟩,
          ⟨some 161, .move (.tmp 23), none⟩,
          ⟨some 162, .binOp .sub 3 (.tmp 160) (.tmp 161) 3, none⟩,
          ⟨some 163, .indexAddr 56 (.tmp 159) (.tmp 162), none⟩,
          ⟨some 164, .load 74 (.tmp 163), none⟩,
          ⟨some 165, .move (.tmp 0), none⟩,
          ⟨some 166, .move (.tmp 23), none⟩,
          ⟨some 167, .indexAddr 56 (.tmp 165) (.tmp 166), none⟩,
          ⟨some 168, .load 74 (.tmp 167), none⟩,
          ⟨some 169, .call ⟨.value (.tmp 158), #[(.tmp 164), (.tmp 168)], #[74, 74]⟩, none⟩,
          ⟨some 170, .binOp .lss 3 (.tmp 169) (.const (.int .i64 (0))) 3, none⟩,
          ⟨some 171, .unOp .not 4 (.tmp 170), none⟩])
        (.cond (.tmp 171) (.ops [⟨some 172, .move (.tmp 23), none⟩,
            ⟨some 173, .binOp .add 3 (.tmp 172) (.const (.int .i64 (1))) 3, none⟩,
            ⟨some 20, .assign (.tmp 173), none⟩])
          (.ops [⟨some 174, .move (.tmp 23), none⟩,
            ⟨some 21, .assign (.tmp 174), none⟩]))))))))
  tail_70_8
def tail_70_6 : C2 :=
  .seq (.ops [⟨some 147, .move (.tmp 19), none⟩,
    ⟨some 148, .binOp .sub 3 (.tmp 147) (.const (.int .i64 (1))) 3, none⟩,
    ⟨some 22, .assign (.tmp 148), none⟩])
  tail_70_7
def tail_70_5 : C2 :=
  .seq (.seq (.ops [⟨some 138, .move (.tmp 2), none⟩,
    ⟨some 139, .move (.tmp 18), none⟩,
    ⟨some 140, .binOp .gtr 3 (.tmp 138) (.tmp 139) 3, none⟩])
  (.cond (.tmp 140) (.seq (.ops [⟨some 141, .move (.tmp 19), none⟩,
      ⟨some 142, .move (.tmp 3), none⟩,
      ⟨some 143, .binOp .sub 3 (.tmp 141) (.tmp 142) 3, none⟩,
      ⟨some 20, .assign (.tmp 143), none⟩])
    (.ops [⟨some 144, .move (.tmp 18), none⟩,
      ⟨some 21, .assign (.tmp 144), none⟩]))
    (.seq (.ops [⟨some 145, .move (.tmp 1), none⟩,
      ⟨some 20, .assign (.tmp 145), none⟩])
    (.ops [⟨some 146, .move (.tmp 2), none⟩,
      ⟨some 21, .assign (.tmp 146), none⟩]))))
  tail_70_6
def tail_70_4 : C2 :=
  .seq (.ops [⟨some 20, .assign (.const (.int .i64 (0))), none⟩,
    ⟨some 21, .assign (.const (.int .i64 (0))), none⟩])
  tail_70_5
def tail_70_3 : C2 :=
  .seq (.ops [⟨some 135, .move (.tmp 18), none⟩,
    ⟨some 136, .move (.tmp 2), none⟩,
    ⟨some 137, .binOp .add 3 (.tmp 135) (.tmp 136) 3, none⟩,
    ⟨some 19, .assign (.tmp 137), none⟩])
  tail_70_4
def tail_70_2 : C2 :=
  .seq (.ops [⟨some 129, .move (.tmp 1), none⟩,
    ⟨some 130, .move (.tmp 3), none⟩,
    ⟨some 131, .binOp .add 3 (.tmp 129) (.tmp 130) 3, none⟩,
    ⟨some 132, .convert 3 127 (.tmp 131), none⟩,
    ⟨some 133, .binOp .shr 127 (.tmp 132) (.const (.int .u64 (1))) 127, none⟩,
    ⟨some 134, .convert 127 3 (.tmp 133), none⟩,
    ⟨some 18, .assign (.tmp 134), none⟩])
  tail_70_3
def tail_70_1 : C2 :=
  .seq (.seq (.ops [⟨some 77, .move (.tmp 3), none⟩,
    ⟨some 78, .move (.tmp 2), none⟩,
    ⟨some 79, .binOp .sub 3 (.tmp 77) (.tmp 78) 3, none⟩,
    ⟨some 80, .binOp .eql 3 (.tmp 79) (.const (.int .i64 (1))) 3, none⟩])
  (.cond (.tmp 80) (.seq (.ops [⟨some 81, .move (.tmp 1), none⟩,
      ⟨some 14, .assign (.tmp 81), none⟩])
    (.seq (.ops [⟨some 82, .move (.tmp 2), none⟩,
      ⟨some 15, .assign (.tmp 82), none⟩])
    (.seq (.block 4 (.loop (.seq (.seq (.ops [⟨some 83, .move (.tmp 14), none⟩,
          ⟨some 84, .move (.tmp 15), none⟩,
          ⟨some 85, .binOp .lss 3 (.tmp 83) (.tmp 84) 3, none⟩])
        (.cond (.tmp 85) (.skip)
          (.exit 4)))
        (.block 5 (.seq (.ops [⟨some 86, .move (.tmp 14), none⟩,
            ⟨some 87, .move (.tmp 15), none⟩,
            ⟨some 88, .binOp .add 3 (.tmp 86) (.tmp 87) 3, none⟩,
            ⟨some 89, .convert 3 127 (.tmp 88), none⟩,
            ⟨some 90, .binOp .shr 127 (.tmp 89) (.const (.int .u64 (1))) 127, none⟩,
            ⟨some 91, .convert 127 3 (.tmp 90), none⟩,
            ⟨some 16, .assign (.tmp 91), none⟩])
          (.seq (.drawn [⟨some 92, .move (.tmp 4), none⟩,
            ⟨some 93, .move (.tmp 0), none⟩,
            ⟨some 94, .move (.tmp 2), none⟩,
            ⟨some 95, .indexAddr 56 (.tmp 93) (.tmp 94), none⟩,
            ⟨some 96, .load 74 (.tmp 95), none⟩,
            ⟨some 97, .move (.tmp 0), none⟩,
            ⟨some 98, .move (.tmp 16), none⟩,
            ⟨some 99, .indexAddr 56 (.tmp 97) (.tmp 98), none⟩,
            ⟨some 100, .load 74 (.tmp 99), none⟩,
            ⟨some 101, .call ⟨.value (.tmp 92), #[(.tmp 96), (.tmp 100)], #[74, 74]⟩, none⟩,
            ⟨some 102, .binOp .lss 3 (.tmp 101) (.const (.int .i64 (0))) 3, none⟩,
            ⟨some 103, .unOp .not 4 (.tmp 102), none⟩])
          (.cond (.tmp 103) (.ops [⟨some 104, .move (.tmp 16), none⟩,
              ⟨some 105, .binOp .add 3 (.tmp 104) (.const (.int .i64 (1))) 3, none⟩,
              ⟨some 14, .assign (.tmp 105), none⟩])
            (.ops [⟨some 106, .move (.tmp 16), none⟩,
              ⟨some 15, .assign (.tmp 106), none⟩]))))))))
    (.seq (.seq (.ops [⟨some 107, .move (.tmp 2), none⟩,
      ⟨some 17, .assign (.tmp 107), none⟩])
    (.block 6 (.loop (.seq (.seq (.ops [⟨some 108, .move (.tmp 17), none⟩,
          ⟨some 109, .move (.tmp 14), none⟩,
          ⟨some 110, .binOp .gtr 3 (.tmp 108) (.tmp 109) 3, none⟩])
        (.cond (.tmp 110) (.skip)
          (.exit 6)))
        (.seq (.block 7 (.drawn [⟨some 113, .move (.tmp 0), none⟩,
            ⟨some 114, .move (.tmp 17), none⟩,
            ⟨some 115, .move (.tmp 0), none⟩,
            ⟨some 116, .move (.tmp 17), none⟩,
            ⟨some 117, .binOp .sub 3 (.tmp 116) (.const (.int .i64 (1))) 3, none⟩,
            ⟨some 118, .move (.tmp 0), none⟩,
            ⟨some 119, .move (.tmp 17), none⟩,
            ⟨some 120, .binOp .sub 3 (.tmp 119) (.const (.int .i64 (1))) 3, none⟩,
            ⟨some 121, .indexAddr 56 (.tmp 118) (.tmp 120), none⟩,
            ⟨some 122, .load 74 (.tmp 121), none⟩,
            ⟨some 123, .move (.tmp 0), none⟩,
            ⟨some 124, .move (.tmp 17), none⟩,
            ⟨some 125, .indexAddr 56 (.tmp 123) (.tmp 124), none⟩,
            ⟨some 126, .load 74 (.tmp 125), none⟩,
            ⟨some 127, .indexAddr 56 (.tmp 113) (.tmp 114), none⟩,
            ⟨none, .store 74 (.tmp 127) (.tmp 122), none⟩,
            ⟨some 128, .indexAddr 56 (.tmp 115) (.tmp 117), none⟩,
            ⟨none, .store 74 (.tmp 128) (.tmp 126), none⟩]))
        (.ops [⟨some 111, .move (.tmp 17), none⟩,
          ⟨some 112, .binOp .sub 3 (.tmp 111) (.const (.int .i64 (1))) 3, none⟩,
          ⟨some 17, .assign (.tmp 112), none⟩]))))))
    (.ret)))))
    (.skip)))
  tail_70_2
def code_70 : C2 :=
  .seq (.seq (.ops [⟨some 25, .move (.tmp 2), none⟩,
    ⟨some 26, .move (.tmp 1), none⟩,
    ⟨some 27, .binOp .sub 3 (.tmp 25) (.tmp 26) 3, none⟩,
    ⟨some 28, .binOp .eql 3 (.tmp 27) (.const (.int .i64 (1))) 3, none⟩])
  (.cond (.tmp 28) (.seq (.ops [⟨some 29, .move (.tmp 2), none⟩,
      ⟨some 10, .assign (.tmp 29), none⟩])
    (.seq (.ops [⟨some 30, .move (.tmp 3), none⟩,
      ⟨some 11, .assign (.tmp 30), none⟩])
    (.seq (.block 0 (.loop (.seq (.seq (.ops [⟨some 31, .move (.tmp 10), none⟩,
          ⟨some 32, .move (.tmp 11), none⟩,
          ⟨some 33, .binOp .lss 3 (.tmp 31) (.tmp 32) 3, none⟩])
        (.cond (.tmp 33) (.skip)
          (.exit 0)))
        (.block 1 (.seq (.ops [⟨some 34, .move (.tmp 10), none⟩,
            ⟨some 35, .move (.tmp 11), none⟩,
            ⟨some 36, .binOp .add 3 (.tmp 34) (.tmp 35) 3, none⟩,
            ⟨some 37, .convert 3 127 (.tmp 36), none⟩,
            ⟨some 38, .binOp .shr 127 (.tmp 37) (.const (.int .u64 (1))) 127, none⟩,
            ⟨some 39, .convert 127 3 (.tmp 38), none⟩,
            ⟨some 12, .assign (.tmp 39), none⟩])
          (.seq (.drawn [⟨some 40, .move (.tmp 4), none⟩,
            ⟨some 41, .move (.tmp 0), none⟩,
            ⟨some 42, .move (.tmp 12), none⟩,
            ⟨some 43, .indexAddr 56 (.tmp 41) (.tmp 42), none⟩,
            ⟨some 44, .load 74 (.tmp 43), none⟩,
            ⟨some 45, .move (.tmp 0), none⟩,
            ⟨some 46, .move (.tmp 1), none⟩,
            ⟨some 47, .indexAddr 56 (.tmp 45) (.tmp 46), none⟩,
            ⟨some 48, .load 74 (.tmp 47), none⟩,
            ⟨some 49, .call ⟨.value (.tmp 40), #[(.tmp 44), (.tmp 48)], #[74, 74]⟩, none⟩,
            ⟨some 50, .binOp .lss 3 (.tmp 49) (.const (.int .i64 (0))) 3, none⟩])
          (.cond (.tmp 50) (.ops [⟨some 51, .move (.tmp 12), none⟩,
              ⟨some 52, .binOp .add 3 (.tmp 51) (.const (.int .i64 (1))) 3, none⟩,
              ⟨some 10, .assign (.tmp 52), none⟩])
            (.ops [⟨some 53, .move (.tmp 12), none⟩,
              ⟨some 11, .assign (.tmp 53), none⟩]))))))))
    (.seq (.seq (.ops [⟨some 54, .move (.tmp 1), none⟩,
      ⟨some 13, .assign (.tmp 54), none⟩])
    (.block 2 (.loop (.seq (.seq (.ops [⟨some 55, .move (.tmp 13), none⟩,
          ⟨some 56, .move (.tmp 10), none⟩,
          ⟨some 57, .binOp .sub 3 (.tmp 56) (.const (.int .i64 (1))) 3, none⟩,
          ⟨some 58, .binOp .lss 3 (.tmp 55) (.tmp 57) 3, none⟩])
        (.cond (.tmp 58) (.skip)
          (.exit 2)))
        (.seq (.block 3 (.drawn [⟨some 61, .move (.tmp 0), none⟩,
            ⟨some 62, .move (.tmp 13), none⟩,
            ⟨some 63, .move (.tmp 0), none⟩,
            ⟨some 64, .move (.tmp 13), none⟩,
            ⟨some 65, .binOp .add 3 (.tmp 64) (.const (.int .i64 (1))) 3, none⟩,
            ⟨some 66, .move (.tmp 0), none⟩,
            ⟨some 67, .move (.tmp 13), none⟩,
            ⟨some 68, .binOp .add 3 (.tmp 67) (.const (.int .i64 (1))) 3, none⟩,
            ⟨some 69, .indexAddr 56 (.tmp 66) (.tmp 68), none⟩,
            ⟨some 70, .load 74 (.tmp 69), none⟩,
            ⟨some 71, .move (.tmp 0), none⟩,
            ⟨some 72, .move (.tmp 13), none⟩,
            ⟨some 73, .indexAddr 56 (.tmp 71) (.tmp 72), none⟩,
            ⟨some 74, .load 74 (.tmp 73), none⟩,
            ⟨some 75, .indexAddr 56 (.tmp 61) (.tmp 62), none⟩,
            ⟨none, .store 74 (.tmp 75) (.tmp 70), none⟩,
            ⟨some 76, .indexAddr 56 (.tmp 63) (.tmp 65), none⟩,
            ⟨none, .store 74 (.tmp 76) (.tmp 74), none⟩]))
        (.ops [⟨some 59, .move (.tmp 13), none⟩,
          ⟨some 60, .binOp .add 3 (.tmp 59) (.const (.int .i64 (1))) 3, none⟩,
          ⟨some 13, .assign (.tmp 60), none⟩]))))))
    (.ret)))))
    (.skip)))
  tail_70_1
theorem cmp_70 : Cmp Try.prog 70 220 code_70 [] := Cmp.of [] Try.func70 rfl rfl (by kernel_rfl) rfl
def code_73 : C2 :=
  .seq (.ops [⟨some 12, .move (.tmp 2), none⟩,
    ⟨some 13, .move (.tmp 1), none⟩,
    ⟨some 14, .binOp .sub 3 (.tmp 12) (.tmp 13) 3, none⟩,
    ⟨some 10, .assign (.tmp 14), none⟩])
  (.seq (.ops [⟨some 15, .move (.tmp 3), none⟩,
    ⟨some 16, .move (.tmp 2), none⟩,
    ⟨some 17, .binOp .sub 3 (.tmp 15) (.tmp 16) 3, none⟩,
    ⟨some 11, .assign (.tmp 17), none⟩])
  (.seq (.block 0 (.loop (.seq (.seq (.ops [⟨some 18, .move (.tmp 10), none⟩,
        ⟨some 19, .move (.tmp 11), none⟩,
        ⟨some 20, .binOp .neq 3 (.tmp 18) (.tmp 19) 3, none⟩])
      (.cond (.tmp 20) (.skip)
        (.exit 0)))
      (.block 1 (.seq (.ops [⟨some 21, .move (.tmp 10), none⟩,
          ⟨some 22, .move (.tmp 11), none⟩,
          ⟨some 23, .binOp .gtr 3 (.tmp 21) (.tmp 22) 3, none⟩])
        (.cond (.tmp 23) (.seq (.ops [⟨some 24, .move (.tmp 0), none⟩,
            ⟨some 25, .move (.tmp 2), none⟩,
            ⟨some 26, .move (.tmp 10), none⟩,
            ⟨some 27, .binOp .sub 3 (.tmp 25) (.tmp 26) 3, none⟩,
            ⟨some 28, .move (.tmp 2), none⟩,
            ⟨some 29, .move (.tmp 11), none⟩,
            ⟨some 30, .move (.tmp 4), none⟩,
            ⟨some 31, .call ⟨.value (.func 74), #[(.tmp 24), (.tmp 27), (.tmp 28), (.tmp 29), (.tmp 30)], #[56, 3, 3, 3, 77]⟩, none⟩])
          (.ops [⟨some 32, .move (.tmp 10), none⟩,
            ⟨some 33, .move (.tmp 11), none⟩,
            ⟨some 34, .binOp .sub 3 (.tmp 32) (.tmp 33) 3, none⟩,
            ⟨some 10, .assign (.tmp 34), none⟩]))
          (.seq (.ops [⟨some 35, .move (.tmp 0), none⟩,
            ⟨some 36, .move (.tmp 2), none⟩,
            ⟨some 37, .move (.tmp 10), none⟩,
            ⟨some 38, .binOp .sub 3 (.tmp 36) (.tmp 37) 3, none⟩,
            ⟨some 39, .move (.tmp 2), none⟩,
            ⟨some 40, .move (.tmp 11), none⟩,
            ⟨some 41, .binOp .add 3 (.tmp 39) (.tmp 40) 3, none⟩,
            ⟨some 42, .move (.tmp 10), none⟩,
            ⟨some 43, .binOp .sub 3 (.tmp 41) (.tmp 42) 3, none⟩,
            ⟨some 44, .move (.tmp 10), none⟩,
            ⟨some 45, .move (.tmp 4), none⟩,
            ⟨some 46, .call ⟨.value (.func 74), #[(.tmp 35), (.tmp 38), (.tmp 43), (.tmp 44), (.tmp 45)], #[56, 3, 3, 3, 77]⟩, none⟩])
          (.ops [⟨some 47, .move (.tmp 11), none⟩,
            ⟨some 48, .move (.tmp 10), none⟩,
            ⟨some 49, .binOp .sub 3 (.tmp 47) (.tmp 48) 3, none⟩,
            ⟨some 11, .assign (.tmp 49), none⟩]))))))))
  (.ops [⟨some 50, .move (.tmp 0), none⟩,
    ⟨some 51, .move (.tmp 2), none⟩,
    ⟨some 52, .move (.tmp 10), none⟩,
    ⟨some 53, .binOp .sub 3 (.tmp 51) (.tmp 52) 3, none⟩,
    ⟨some 54, .move (.tmp 2), none⟩,
    ⟨some 55, .move (.tmp 10), none⟩,
    ⟨some 56, .move (.tmp 4), none⟩,
    ⟨some 57, .call ⟨.value (.func 74), #[(.tmp 50), (.tmp 53), (.tmp 54), (.tmp 55), (.tmp 56)], #[56, 3, 3, 3, 77]⟩, none⟩])))
theorem cmp_73 : Cmp Try.prog 73 58 code_73 [] := Cmp.of [] Try.func73 rfl rfl (by kernel_rfl) rfl
def code_74 : C2 :=
  .seq (.ops [⟨some 10, .assign (.const (.int .i64 (0))), none⟩])
  (.block 0 (.loop (.seq (.seq (.ops [⟨some 11, .move (.tmp 10), none⟩,
        ⟨some 12, .move (.tmp 3), none⟩,
        ⟨some 13, .binOp .lss 3 (.tmp 11) (.tmp 12) 3, none⟩])
      (.cond (.tmp 13) (.skip)
        (.exit 0)))
      (.seq (.block 1 (.drawn [⟨some 16, .move (.tmp 0), none⟩,
          ⟨some 17, .move (.tmp 1), none⟩,
          ⟨some 18, .move (.tmp 10), none⟩,
          ⟨some 19, .binOp .add 3 (.tmp 17) (.tmp 18) 3, none⟩,
          ⟨some 20, .move (.tmp 0), none⟩,
          ⟨some 21, .move (.tmp 2), none⟩,
          ⟨some 22, .move (.tmp 10), none⟩,
          ⟨some 23, .binOp .add 3 (.tmp 21) (.tmp 22) 3, none⟩,
          ⟨some 24, .move (.tmp 0), none⟩,
          ⟨some 25, .move (.tmp 2), none⟩,
          ⟨some 26, .move (.tmp 10), none⟩,
          ⟨some 27, .binOp .add 3 (.tmp 25) (.tmp 26) 3, none⟩,
          ⟨some 28, .indexAddr 56 (.tmp 24) (.tmp 27), none⟩,
          ⟨some 29, .load 74 (.tmp 28), none⟩,
          ⟨some 30, .move (.tmp 0), none⟩,
          ⟨some 31, .move (.tmp 1), none⟩,
          ⟨some 32, .move (.tmp 10), none⟩,
          ⟨some 33, .binOp .add 3 (.tmp 31) (.tmp 32) 3, none⟩,
          ⟨some 34, .indexAddr 56 (.tmp 30) (.tmp 33), none⟩,
          ⟨some 35, .load 74 (.tmp 34), none⟩,
          ⟨some 36, .indexAddr 56 (.tmp 16) (.tmp 19), none⟩,
          ⟨none, .store 74 (.tmp 36) (.tmp 29), none⟩,
          ⟨some 37, .indexAddr 56 (.tmp 20) (.tmp 23), none⟩,
          ⟨none, .store 74 (.tmp 37) (.tmp 35), none⟩]))
      (.ops [⟨some 14, .move (.tmp 10), none⟩,
        ⟨some 15, .binOp .add 3 (.tmp 14) (.const (.int .i64 (1))) 3, none⟩,
        ⟨some 10, .assign (.tmp 15), none⟩])))))
theorem cmp_74 : Cmp Try.prog 74 38 code_74 [] := Cmp.of [] Try.func74 rfl rfl (by kernel_rfl) rfl
end Go.Proofs.Ytlifcjggdandnaa
