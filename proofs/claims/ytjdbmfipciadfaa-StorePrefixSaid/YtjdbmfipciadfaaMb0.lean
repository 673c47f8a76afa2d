/- The table of the types of this seat's translation, for the abstract machine, and that it is the translation's own. Written by tytab.py. -/import Derived.Test.YtjdbmfipciadfaaProg
import Derived.Test.YtjdbmfipciadfaaMa3
import Derived.KernelRfl
import Derived.Test.YtjdbmfipciadfaaMa4
import Derived.Shelf.Sort.Plain
import Derived.Shelf.Slices.In.SortNone
namespace Go.Proofs.Ytjdbmfipciadfaa.A
open Go Go.Pt
def t0 : Ty := ⟨.tup, 1, 0, false, [.junk], [], true, 0, .junk⟩
def t1 : Ty := ⟨.func, 1, 8, false, [.nilf], [.func], true, 0, .junk⟩
def t2 : Ty := ⟨.int .i64, 1, 8, false, [.int .i64 0], [.int .i64], true, 0, .junk⟩
def t3 : Ty := ⟨.int .i64, 1, 8, false, [.int .i64 0], [.int .i64], true, 0, .junk⟩
def t4 : Ty := ⟨.bool, 1, 1, false, [.bl false], [.bool], true, 0, .bool false⟩
def t5 : Ty := ⟨.int .u8, 1, 1, false, [.int .u8 0], [.int .u8], true, 0, .junk⟩
def t6 : Ty := ⟨.int .u8, 1, 1, false, [.int .u8 0], [.int .u8], true, 0, .junk⟩
def t7 : Ty := ⟨.struct [(2, 0), (3, 1), (4, 2), (6, 3)], 4, 24, true, [.int .i64 0, .int .i64 0, .bl false, .int .u8 0], [.int .i64, .int .i64, .bool, .int .u8], true, 0, .agg [.junk, .junk, .bool false, .junk]⟩
def t8 : Ty := ⟨.struct [(2, 0), (3, 1), (4, 2), (6, 3)], 4, 24, true, [.int .i64 0, .int .i64 0, .bl false, .int .u8 0], [.int .i64, .int .i64, .bool, .int .u8], true, 0, .agg [.junk, .junk, .bool false, .junk]⟩
def t9 : Ty := ⟨.str, 1, 16, false, [.str ⟨#[]⟩], [.str], true, 0, .junk⟩
def t10 : Ty := ⟨.str, 1, 16, false, [.str ⟨#[]⟩], [.str], true, 0, .junk⟩
def t11 : Ty := ⟨.str, 1, 16, false, [.str ⟨#[]⟩], [.str], true, 0, .junk⟩
def t12 : Ty := ⟨.int .u64, 1, 8, false, [.int .u64 0], [.int .u64], true, 0, .junk⟩
def t13 : Ty := ⟨.struct [(9, 0), (12, 1)], 2, 24, true, [.str ⟨#[]⟩, .int .u64 0], [], true, 0, .junk⟩
def t14 : Ty := ⟨.struct [(9, 0), (12, 1)], 2, 24, true, [.str ⟨#[]⟩, .int .u64 0], [], true, 0, .junk⟩
def t15 : Ty := ⟨.ptr 239, 1, 8, false, [.nilp], [.ptr 239], true, 0, .junk⟩
def t16 : Ty := ⟨.ptr 242, 1, 8, false, [.nilp], [], true, 0, .junk⟩
def t17 : Ty := ⟨.ptr 250, 1, 8, false, [.nilp], [.ptr 250], true, 0, .junk⟩
def t18 : Ty := ⟨.struct [(17, 0)], 1, 8, true, [.nilp], [], true, 0, .junk⟩
def t19 : Ty := ⟨.struct [(17, 0)], 1, 8, true, [.nilp], [], true, 0, .junk⟩
def t20 : Ty := ⟨.iface, 1, 16, false, [.nili], [], true, 0, .junk⟩
def t21 : Ty := ⟨.int .i32, 1, 4, false, [.int .i32 0], [.int .i32], true, 0, .junk⟩
def t22 : Ty := ⟨.slice 33, 1, 24, false, [.nils], [], true, 0, .sl 6 [] .no⟩
def t23 : Ty := ⟨.func, 1, 8, false, [.nilf], [.func], true, 0, .junk⟩
def t24 : Ty := ⟨.ptr 105, 1, 8, false, [.nilp], [.ptr 105], true, 0, .junk⟩
def t25 : Ty := ⟨.int .i64, 1, 8, false, [.int .i64 0], [.int .i64], true, 0, .junk⟩
def t26 : Ty := ⟨.tup, 1, 0, false, [.junk], [], true, 0, .junk⟩
def t27 : Ty := ⟨.func, 1, 8, false, [.nilf], [.func], true, 0, .junk⟩
def t28 : Ty := ⟨.slice 57, 1, 24, false, [.nils], [], true, 0, .sl 2 [] .no⟩
def t29 : Ty := ⟨.slice 2, 1, 24, false, [.nils], [], true, 0, .sl 1 [] .no⟩
def t30 : Ty := ⟨.struct [(2, 0), (2, 1), (2, 2), (28, 3), (29, 4)], 5, 72, true, [.int .i64 0, .int .i64 0, .int .i64 0, .nils, .nils], [], true, 0, .agg [.junk, .junk, .junk, .sl 2 [] .no, .sl 1 [] .no]⟩
def t31 : Ty := ⟨.struct [(2, 0), (2, 1), (2, 2), (28, 3), (29, 4)], 5, 72, true, [.int .i64 0, .int .i64 0, .int .i64 0, .nils, .nils], [], true, 0, .agg [.junk, .junk, .junk, .sl 2 [] .no, .sl 1 [] .no]⟩
def t32 : Ty := ⟨.struct [(3, 0), (31, 1)], 6, 80, true, [.int .i64 0, .int .i64 0, .int .i64 0, .int .i64 0, .nils, .nils], [], true, 0, .agg [.junk, .junk, .junk, .junk, .sl 2 [] .no, .sl 1 [] .no]⟩
def t33 : Ty := ⟨.struct [(3, 0), (31, 1)], 6, 80, true, [.int .i64 0, .int .i64 0, .int .i64 0, .int .i64 0, .nils, .nils], [], true, 0, .agg [.junk, .junk, .junk, .junk, .sl 2 [] .no, .sl 1 [] .no]⟩
def t34 : Ty := ⟨.func, 1, 8, false, [.nilf], [.func], true, 0, .junk⟩
def t35 : Ty := ⟨.func, 1, 8, false, [.nilf], [.func], true, 0, .junk⟩
def t36 : Ty := ⟨.struct [(2, 0), (2, 1)], 2, 16, true, [.int .i64 0, .int .i64 0], [.int .i64, .int .i64], true, 0, .junk⟩
def t37 : Ty := ⟨.struct [(2, 0), (2, 1)], 2, 16, true, [.int .i64 0, .int .i64 0], [.int .i64, .int .i64], true, 0, .junk⟩
def t38 : Ty := ⟨.func, 1, 8, false, [.nilf], [.func], true, 0, .junk⟩
def t39 : Ty := ⟨.slice 31, 1, 24, false, [.nils], [], true, 0, .sl 5 [] .no⟩
def t40 : Ty := ⟨.struct [(2, 0), (28, 1), (29, 2), (29, 3), (39, 4)], 5, 104, true, [.int .i64 0, .nils, .nils, .nils, .nils], [], true, 0, .agg [.junk, .sl 2 [] .no, .sl 1 [] .no, .sl 1 [] .no, .sl 5 [] .no]⟩
def t41 : Ty := ⟨.struct [(2, 0), (28, 1), (29, 2), (29, 3), (39, 4)], 5, 104, true, [.int .i64 0, .nils, .nils, .nils, .nils], [], true, 0, .agg [.junk, .sl 2 [] .no, .sl 1 [] .no, .sl 1 [] .no, .sl 5 [] .no]⟩
def t42 : Ty := ⟨.func, 1, 8, false, [.nilf], [.func], true, 0, .junk⟩
def t43 : Ty := ⟨.ptr 134, 1, 8, false, [.nilp], [.ptr 134], true, 0, .junk⟩
def t44 : Ty := ⟨.tup, 1, 0, false, [.junk], [], true, 0, .junk⟩
def t45 : Ty := ⟨.func, 1, 8, false, [.nilf], [.func], true, 0, .junk⟩
def t46 : Ty := ⟨.func, 1, 8, false, [.nilf], [.func], true, 0, .junk⟩
def t47 : Ty := ⟨.func, 1, 8, false, [.nilf], [.func], true, 0, .junk⟩
def t48 : Ty := ⟨.func, 1, 8, false, [.nilf], [.func], true, 0, .junk⟩
def t49 : Ty := ⟨.func, 1, 8, false, [.nilf], [.func], true, 0, .junk⟩
def t50 : Ty := ⟨.func, 1, 8, false, [.nilf], [.func], true, 0, .junk⟩
def t51 : Ty := ⟨.func, 1, 8, false, [.nilf], [.func], true, 0, .junk⟩
def t52 : Ty := ⟨.func, 1, 8, false, [.nilf], [.func], true, 0, .junk⟩
def t53 : Ty := ⟨.func, 1, 8, false, [.nilf], [.func], true, 0, .junk⟩
def t54 : Ty := ⟨.func, 1, 8, false, [.nilf], [.func], true, 0, .junk⟩
def t55 : Ty := ⟨.func, 1, 8, false, [.nilf], [.func], true, 0, .junk⟩
def t56 : Ty := ⟨.struct [(2, 0), (2, 1)], 2, 16, true, [.int .i64 0, .int .i64 0], [.int .i64, .int .i64], true, 0, .junk⟩
def t57 : Ty := ⟨.struct [(2, 0), (2, 1)], 2, 16, true, [.int .i64 0, .int .i64 0], [.int .i64, .int .i64], true, 0, .junk⟩
def t58 : Ty := ⟨.func, 1, 8, false, [.nilf], [.func], true, 0, .junk⟩
def t59 : Ty := ⟨.slice 71, 1, 24, false, [.nils], [], true, 0, .sl 6 [] .no⟩
def t60 : Ty := ⟨.struct [(59, 0), (59, 1), (5, 2), (5, 3)], 4, 56, true, [.nils, .nils, .int .u8 0, .int .u8 0], [], true, 0, .agg [.sl 6 [] .no, .sl 6 [] .no, .junk, .junk]⟩
def t61 : Ty := ⟨.struct [(59, 0), (59, 1), (5, 2), (5, 3)], 4, 56, true, [.nils, .nils, .int .u8 0, .int .u8 0], [], true, 0, .agg [.sl 6 [] .no, .sl 6 [] .no, .junk, .junk]⟩
def t62 : Ty := ⟨.ptr 119, 1, 8, false, [.nilp], [.ptr 119], true, 0, .junk⟩
def t63 : Ty := ⟨.ptr 156, 1, 8, false, [.nilp], [.ptr 156], true, 0, .junk⟩
def t64 : Ty := ⟨.tup, 1, 0, false, [.junk], [], true, 0, .junk⟩
def t65 : Ty := ⟨.func, 1, 8, false, [.nilf], [.func], true, 0, .junk⟩
def t66 : Ty := ⟨.slice 9, 1, 24, false, [.nils], [], true, 0, .sl 1 [] .no⟩
def t67 : Ty := ⟨.func, 1, 8, false, [.nilf], [.func], true, 0, .junk⟩
def t68 : Ty := ⟨.func, 1, 8, false, [.nilf], [.func], true, 0, .junk⟩
def t69 : Ty := ⟨.slice 5, 1, 24, false, [.nils], [], true, 0, .sl 1 [] .no⟩
def t70 : Ty := ⟨.struct [(3, 0), (9, 1), (9, 2), (3, 3), (3, 4), (69, 5)], 6, 80, true, [.int .i64 0, .str ⟨#[]⟩, .str ⟨#[]⟩, .int .i64 0, .int .i64 0, .nils], [], true, 0, .agg [.junk, .junk, .junk, .junk, .junk, .sl 1 [] .no]⟩
def t71 : Ty := ⟨.struct [(3, 0), (9, 1), (9, 2), (3, 3), (3, 4), (69, 5)], 6, 80, true, [.int .i64 0, .str ⟨#[]⟩, .str ⟨#[]⟩, .int .i64 0, .int .i64 0, .nils], [], true, 0, .agg [.junk, .junk, .junk, .junk, .junk, .sl 1 [] .no]⟩
def t72 : Ty := ⟨.func, 1, 8, false, [.nilf], [.func], true, 0, .junk⟩
def t73 : Ty := ⟨.func, 1, 8, false, [.nilf], [.func], true, 0, .junk⟩
def t74 : Ty := ⟨.func, 1, 8, false, [.nilf], [.func], true, 0, .junk⟩
def t75 : Ty := ⟨.func, 1, 8, false, [.nilf], [.func], true, 0, .junk⟩
def t76 : Ty := ⟨.tup, 1, 0, false, [.junk], [], true, 0, .junk⟩
def t77 : Ty := ⟨.func, 1, 8, false, [.nilf], [.func], true, 0, .junk⟩
def t78 : Ty := ⟨.tup, 1, 0, false, [.junk], [], true, 0, .junk⟩
def t79 : Ty := ⟨.func, 1, 8, false, [.nilf], [.func], true, 0, .junk⟩
def t80 : Ty := ⟨.func, 1, 8, false, [.nilf], [.func], true, 0, .junk⟩
def t81 : Ty := ⟨.func, 1, 8, false, [.nilf], [.func], true, 0, .junk⟩
def t82 : Ty := ⟨.map 9 69, 1, 8, false, [.nilm], [.map 9 69], true, 0, .junk⟩
def t83 : Ty := ⟨.func, 1, 8, false, [.nilf], [.func], true, 0, .junk⟩
def t84 : Ty := ⟨.func, 1, 8, false, [.nilf], [.func], true, 0, .junk⟩
def t85 : Ty := ⟨.func, 1, 8, false, [.nilf], [.func], true, 0, .junk⟩
def t86 : Ty := ⟨.func, 1, 8, false, [.nilf], [.func], true, 0, .junk⟩
def t87 : Ty := ⟨.struct [(3, 0), (41, 1), (33, 6), (29, 12)], 13, 216, true, [.int .i64 0, .int .i64 0, .nils, .nils, .nils, .nils, .int .i64 0, .int .i64 0, .int .i64 0, .int .i64 0, .nils, .nils, .nils], [], true, 0, .agg [.junk, .junk, .sl 2 [] .no, .sl 1 [] .no, .sl 1 [] .no, .sl 5 [] .no, .junk, .junk, .junk, .junk, .sl 2 [] .no, .sl 1 [] .no, .sl 1 [] .no]⟩
def t88 : Ty := ⟨.struct [(3, 0), (41, 1), (33, 6), (29, 12)], 13, 216, true, [.int .i64 0, .int .i64 0, .nils, .nils, .nils, .nils, .int .i64 0, .int .i64 0, .int .i64 0, .int .i64 0, .nils, .nils, .nils], [], true, 0, .agg [.junk, .junk, .sl 2 [] .no, .sl 1 [] .no, .sl 1 [] .no, .sl 5 [] .no, .junk, .junk, .junk, .junk, .sl 2 [] .no, .sl 1 [] .no, .sl 1 [] .no]⟩
def t89 : Ty := ⟨.func, 1, 8, false, [.nilf], [.func], true, 0, .junk⟩
def t90 : Ty := ⟨.func, 1, 8, false, [.nilf], [.func], true, 0, .junk⟩
def t91 : Ty := ⟨.func, 1, 8, false, [.nilf], [.func], true, 0, .junk⟩
def t92 : Ty := ⟨.tup, 1, 0, false, [.junk], [], true, 0, .junk⟩
def t93 : Ty := ⟨.func, 1, 8, false, [.nilf], [.func], true, 0, .junk⟩
def t94 : Ty := ⟨.tup, 1, 0, false, [.junk], [], true, 0, .junk⟩
def t95 : Ty := ⟨.func, 1, 8, false, [.nilf], [.func], true, 0, .junk⟩
def t96 : Ty := ⟨.func, 1, 8, false, [.nilf], [.func], true, 0, .junk⟩
def t97 : Ty := ⟨.func, 1, 8, false, [.nilf], [.func], true, 0, .junk⟩
def t98 : Ty := ⟨.func, 1, 8, false, [.nilf], [.func], true, 0, .junk⟩
def t99 : Ty := ⟨.func, 1, 8, false, [.nilf], [.func], true, 0, .junk⟩
def t100 : Ty := ⟨.func, 1, 8, false, [.nilf], [.func], true, 0, .junk⟩
def t101 : Ty := ⟨.func, 1, 8, false, [.nilf], [.func], true, 0, .junk⟩
def t102 : Ty := ⟨.map 37 4, 1, 8, false, [.nilm], [.map 37 4], true, 0, .junk⟩
def t103 : Ty := ⟨.map 37 31, 1, 8, false, [.nilm], [.map 37 31], true, 0, .junk⟩
def t104 : Ty := ⟨.struct [(3, 0), (2, 1), (28, 2), (29, 3), (102, 4), (103, 5)], 6, 80, true, [.int .i64 0, .int .i64 0, .nils, .nils, .nilm, .nilm], [], true, 0, .agg [.junk, .junk, .sl 2 [] .no, .sl 1 [] .no, .junk, .junk]⟩
def t105 : Ty := ⟨.struct [(3, 0), (2, 1), (28, 2), (29, 3), (102, 4), (103, 5)], 6, 80, true, [.int .i64 0, .int .i64 0, .nils, .nils, .nilm, .nilm], [], true, 0, .agg [.junk, .junk, .sl 2 [] .no, .sl 1 [] .no, .junk, .junk]⟩
def t106 : Ty := ⟨.slice 24, 1, 24, false, [.nils], [], true, 0, .sl 1 [] .no⟩
def t107 : Ty := ⟨.tup, 1, 0, false, [.junk], [], true, 0, .junk⟩
def t108 : Ty := ⟨.func, 1, 8, false, [.nilf], [.func], true, 0, .junk⟩
def t109 : Ty := ⟨.tup, 1, 0, false, [.junk], [], true, 0, .junk⟩
def t110 : Ty := ⟨.func, 1, 8, false, [.nilf], [.func], true, 0, .junk⟩
def t111 : Ty := ⟨.slice 37, 1, 24, false, [.nils], [], true, 0, .sl 2 [] .no⟩
def t112 : Ty := ⟨.func, 1, 8, false, [.nilf], [.func], true, 0, .junk⟩
def t113 : Ty := ⟨.func, 1, 8, false, [.nilf], [.func], true, 0, .junk⟩
def t114 : Ty := ⟨.func, 1, 8, false, [.nilf], [.func], true, 0, .junk⟩
def t115 : Ty := ⟨.func, 1, 8, false, [.nilf], [.func], true, 0, .junk⟩
def t116 : Ty := ⟨.map 9 142, 1, 8, false, [.nilm], [.map 9 142], true, 0, .junk⟩
def t117 : Ty := ⟨.slice 150, 1, 24, false, [.nils], [], true, 1, .sl 3 [] .no⟩
def t118 : Ty := ⟨.struct [(3, 0), (116, 1), (117, 2), (4, 3)], 4, 48, true, [.int .i64 0, .nilm, .nils, .bl false], [], true, 0, .agg [.junk, .junk, .sl 3 [] .no, .bool false]⟩
def t119 : Ty := ⟨.struct [(3, 0), (116, 1), (117, 2), (4, 3)], 4, 48, true, [.int .i64 0, .nilm, .nils, .bl false], [], true, 0, .agg [.junk, .junk, .sl 3 [] .no, .bool false]⟩
def t120 : Ty := ⟨.slice 62, 1, 24, false, [.nils], [], true, 0, .sl 1 [] .no⟩
def t121 : Ty := ⟨.func, 1, 8, false, [.nilf], [.func], true, 0, .junk⟩
def t122 : Ty := ⟨.func, 1, 8, false, [.nilf], [.func], true, 0, .junk⟩
def t123 : Ty := ⟨.func, 1, 8, false, [.nilf], [.func], true, 0, .junk⟩
def t124 : Ty := ⟨.func, 1, 8, false, [.nilf], [.func], true, 0, .junk⟩
def t125 : Ty := ⟨.func, 1, 8, false, [.nilf], [.func], true, 0, .junk⟩
def t126 : Ty := ⟨.func, 1, 8, false, [.nilf], [.func], true, 0, .junk⟩
def t127 : Ty := ⟨.tup, 1, 0, false, [.junk], [], true, 0, .junk⟩
def t128 : Ty := ⟨.func, 1, 8, false, [.nilf], [.func], true, 0, .junk⟩
def t129 : Ty := ⟨.func, 1, 8, false, [.nilf], [.func], true, 0, .junk⟩
def t130 : Ty := ⟨.func, 1, 8, false, [.nilf], [.func], true, 0, .junk⟩
def t131 : Ty := ⟨.func, 1, 8, false, [.nilf], [.func], true, 0, .junk⟩
def t132 : Ty := ⟨.func, 1, 8, false, [.nilf], [.func], true, 0, .junk⟩
def t133 : Ty := ⟨.struct [(3, 0), (41, 1)], 6, 112, true, [.int .i64 0, .int .i64 0, .nils, .nils, .nils, .nils], [], true, 0, .agg [.junk, .junk, .sl 2 [] .no, .sl 1 [] .no, .sl 1 [] .no, .sl 5 [] .no]⟩
def t134 : Ty := ⟨.struct [(3, 0), (41, 1)], 6, 112, true, [.int .i64 0, .int .i64 0, .nils, .nils, .nils, .nils], [], true, 0, .agg [.junk, .junk, .sl 2 [] .no, .sl 1 [] .no, .sl 1 [] .no, .sl 5 [] .no]⟩
def t135 : Ty := ⟨.func, 1, 8, false, [.nilf], [.func], true, 0, .junk⟩
def t136 : Ty := ⟨.func, 1, 8, false, [.nilf], [.func], true, 0, .junk⟩
def t137 : Ty := ⟨.slice 69, 1, 24, false, [.nils], [], true, 0, .sl 1 [] .no⟩
def t138 : Ty := ⟨.slice 3, 1, 24, false, [.nils], [], true, 0, .sl 1 [] .no⟩
def t139 : Ty := ⟨.func, 1, 8, false, [.nilf], [.func], true, 0, .junk⟩
def t140 : Ty := ⟨.func, 1, 8, false, [.nilf], [.func], true, 0, .junk⟩
def t141 : Ty := ⟨.func, 1, 8, false, [.nilf], [.func], true, 0, .junk⟩
def t142 : Ty := ⟨.ptr 147, 1, 8, false, [.nilp], [.ptr 147], true, 0, .junk⟩
def t143 : Ty := ⟨.tup, 1, 0, false, [.junk], [], true, 0, .junk⟩
def t144 : Ty := ⟨.func, 1, 8, false, [.nilf], [.func], true, 0, .junk⟩
def t145 : Ty := ⟨.func, 1, 8, false, [.nilf], [.func], true, 0, .junk⟩
def t146 : Ty := ⟨.struct [(69, 0)], 1, 24, true, [.nils], [], true, 0, .agg [.sl 1 [] .no]⟩
def t147 : Ty := ⟨.struct [(69, 0)], 1, 24, true, [.nils], [], true, 5, .agg [.sl 1 [] .no]⟩
def t148 : Ty := ⟨.func, 1, 8, false, [.nilf], [.func], true, 0, .junk⟩
def t149 : Ty := ⟨.struct [(142, 0), (3, 1), (69, 2)], 3, 40, true, [.nilp, .int .i64 0, .nils], [], true, 0, .agg [.junk, .junk, .sl 1 [] .no]⟩
def t150 : Ty := ⟨.struct [(142, 0), (3, 1), (69, 2)], 3, 40, true, [.nilp, .int .i64 0, .nils], [], true, 0, .agg [.junk, .junk, .sl 1 [] .no]⟩
def t151 : Ty := ⟨.func, 1, 8, false, [.nilf], [.func], true, 0, .junk⟩
def t152 : Ty := ⟨.func, 1, 8, false, [.nilf], [.func], true, 0, .junk⟩
def t153 : Ty := ⟨.slice 164, 1, 24, false, [.nils], [], true, 1, .sl 2 [] .no⟩
def t154 : Ty := ⟨.slice 158, 1, 24, false, [.nils], [], true, 1, .sl 3 [] .no⟩
def t155 : Ty := ⟨.struct [(153, 0), (154, 1), (3, 2), (4, 3)], 4, 64, true, [.nils, .nils, .int .i64 0, .bl false], [], true, 0, .agg [.sl 2 [] .no, .sl 3 [] .no, .junk, .bool false]⟩
def t156 : Ty := ⟨.struct [(153, 0), (154, 1), (3, 2), (4, 3)], 4, 64, true, [.nils, .nils, .int .i64 0, .bl false], [], true, 0, .agg [.sl 2 [] .no, .sl 3 [] .no, .junk, .bool false]⟩
def t157 : Ty := ⟨.struct [(9, 0), (3, 1), (69, 2)], 3, 48, true, [.str ⟨#[]⟩, .int .i64 0, .nils], [], true, 0, .agg [.junk, .junk, .sl 1 [] .no]⟩
def t158 : Ty := ⟨.struct [(9, 0), (3, 1), (69, 2)], 3, 48, true, [.str ⟨#[]⟩, .int .i64 0, .nils], [], true, 0, .agg [.junk, .junk, .sl 1 [] .no]⟩
def t159 : Ty := ⟨.func, 1, 8, false, [.nilf], [.func], true, 0, .junk⟩
def t160 : Ty := ⟨.func, 1, 8, false, [.nilf], [.func], true, 0, .junk⟩
def t161 : Ty := ⟨.func, 1, 8, false, [.nilf], [.func], true, 0, .junk⟩
def t162 : Ty := ⟨.func, 1, 8, false, [.nilf], [.func], true, 0, .junk⟩
def t163 : Ty := ⟨.struct [(9, 0), (69, 1)], 2, 40, true, [.str ⟨#[]⟩, .nils], [], true, 0, .agg [.junk, .sl 1 [] .no]⟩
def t164 : Ty := ⟨.struct [(9, 0), (69, 1)], 2, 40, true, [.str ⟨#[]⟩, .nils], [], true, 0, .agg [.junk, .sl 1 [] .no]⟩
def t165 : Ty := ⟨.func, 1, 8, false, [.nilf], [.func], true, 0, .junk⟩
def t166 : Ty := ⟨.func, 1, 8, false, [.nilf], [.func], true, 0, .junk⟩
def t167 : Ty := ⟨.func, 1, 8, false, [.nilf], [.func], true, 0, .junk⟩
def t168 : Ty := ⟨.func, 1, 8, false, [.nilf], [.func], true, 0, .junk⟩
def t169 : Ty := ⟨.func, 1, 8, false, [.nilf], [.func], true, 0, .junk⟩
def t170 : Ty := ⟨.map 142 142, 1, 8, false, [.nilm], [.map 142 142], true, 0, .junk⟩
def t171 : Ty := ⟨.func, 1, 8, false, [.nilf], [.func], true, 0, .junk⟩
def t172 : Ty := ⟨.func, 1, 8, false, [.nilf], [.func], true, 0, .junk⟩
def t173 : Ty := ⟨.func, 1, 8, false, [.nilf], [.func], true, 0, .junk⟩
def t174 : Ty := ⟨.func, 1, 8, false, [.nilf], [.func], true, 0, .junk⟩
def t175 : Ty := ⟨.func, 1, 8, false, [.nilf], [.func], true, 0, .junk⟩
def t176 : Ty := ⟨.func, 1, 8, false, [.nilf], [.func], true, 0, .junk⟩
def t177 : Ty := ⟨.func, 1, 8, false, [.nilf], [.func], true, 0, .junk⟩
def t178 : Ty := ⟨.func, 1, 8, false, [.nilf], [.func], true, 0, .junk⟩
def t179 : Ty := ⟨.func, 1, 8, false, [.nilf], [.func], true, 0, .junk⟩
def t180 : Ty := ⟨.func, 1, 8, false, [.nilf], [.func], true, 0, .junk⟩
def t181 : Ty := ⟨.func, 1, 8, false, [.nilf], [.func], true, 0, .junk⟩
def t182 : Ty := ⟨.func, 1, 8, false, [.nilf], [.func], true, 0, .junk⟩
def t183 : Ty := ⟨.func, 1, 8, false, [.nilf], [.func], true, 0, .junk⟩
def t184 : Ty := ⟨.func, 1, 8, false, [.nilf], [.func], true, 0, .junk⟩
def t185 : Ty := ⟨.func, 1, 8, false, [.nilf], [.func], true, 0, .junk⟩
def t186 : Ty := ⟨.func, 1, 8, false, [.nilf], [.func], true, 0, .junk⟩
def t187 : Ty := ⟨.func, 1, 8, false, [.nilf], [.func], true, 0, .junk⟩
def t188 : Ty := ⟨.func, 1, 8, false, [.nilf], [.func], true, 0, .junk⟩
def t189 : Ty := ⟨.func, 1, 8, false, [.nilf], [.func], true, 0, .junk⟩
def t190 : Ty := ⟨.func, 1, 8, false, [.nilf], [.func], true, 0, .junk⟩
def t191 : Ty := ⟨.func, 1, 8, false, [.nilf], [.func], true, 0, .junk⟩
def t192 : Ty := ⟨.func, 1, 8, false, [.nilf], [.func], true, 0, .junk⟩
def t193 : Ty := ⟨.func, 1, 8, false, [.nilf], [.func], true, 0, .junk⟩
def t194 : Ty := ⟨.func, 1, 8, false, [.nilf], [.func], true, 0, .junk⟩
def t195 : Ty := ⟨.func, 1, 8, false, [.nilf], [.func], true, 0, .junk⟩
def t196 : Ty := ⟨.func, 1, 8, false, [.nilf], [.func], true, 0, .junk⟩
def t197 : Ty := ⟨.func, 1, 8, false, [.nilf], [.func], true, 0, .junk⟩
def t198 : Ty := ⟨.func, 1, 8, false, [.nilf], [.func], true, 0, .junk⟩
def t199 : Ty := ⟨.func, 1, 8, false, [.nilf], [.func], true, 0, .junk⟩
def t200 : Ty := ⟨.func, 1, 8, false, [.nilf], [.func], true, 0, .junk⟩
def t201 : Ty := ⟨.func, 1, 8, false, [.nilf], [.func], true, 0, .junk⟩
def t202 : Ty := ⟨.func, 1, 8, false, [.nilf], [.func], true, 0, .junk⟩
def t203 : Ty := ⟨.func, 1, 8, false, [.nilf], [.func], true, 0, .junk⟩
def t204 : Ty := ⟨.int .u64, 1, 8, false, [.int .u64 0], [.int .u64], true, 0, .junk⟩
def t205 : Ty := ⟨.func, 1, 8, false, [.nilf], [.func], true, 0, .junk⟩
def t206 : Ty := ⟨.func, 1, 8, false, [.nilf], [.func], true, 0, .junk⟩
def t207 : Ty := ⟨.func, 1, 8, false, [.nilf], [.func], true, 0, .junk⟩
def t208 : Ty := ⟨.int .i64, 1, 8, false, [.int .i64 0], [.int .i64], true, 0, .junk⟩
def t209 : Ty := ⟨.tup, 1, 0, false, [.junk], [], true, 0, .junk⟩
def t210 : Ty := ⟨.func, 1, 8, false, [.nilf], [.func], true, 0, .junk⟩
def t211 : Ty := ⟨.func, 1, 8, false, [.nilf], [.func], true, 0, .junk⟩
def t212 : Ty := ⟨.func, 1, 8, false, [.nilf], [.func], true, 0, .junk⟩
def t213 : Ty := ⟨.tup, 1, 0, false, [.junk], [], true, 0, .junk⟩
def t214 : Ty := ⟨.func, 1, 8, false, [.nilf], [.func], true, 0, .junk⟩
def t215 : Ty := ⟨.func, 1, 8, false, [.nilf], [.func], true, 0, .junk⟩
def t216 : Ty := ⟨.int .u32, 1, 4, false, [.int .u32 0], [.int .u32], true, 0, .junk⟩
def t217 : Ty := ⟨.func, 1, 8, false, [.nilf], [.func], true, 0, .junk⟩
def t218 : Ty := ⟨.int .u64, 1, 8, false, [.int .u64 0], [.int .u64], true, 0, .junk⟩
def t219 : Ty := ⟨.func, 1, 8, false, [.nilf], [.func], true, 0, .junk⟩
def t220 : Ty := ⟨.func, 1, 8, false, [.nilf], [.func], true, 0, .junk⟩
def t221 : Ty := ⟨.func, 1, 8, false, [.nilf], [.func], true, 0, .junk⟩
def t222 : Ty := ⟨.func, 1, 8, false, [.nilf], [.func], true, 0, .junk⟩
def t223 : Ty := ⟨.func, 1, 8, false, [.nilf], [.func], true, 0, .junk⟩
def t224 : Ty := ⟨.func, 1, 8, false, [.nilf], [.func], true, 0, .junk⟩
def t225 : Ty := ⟨.int .u64, 1, 8, false, [.int .u64 0], [.int .u64], true, 0, .junk⟩
def t226 : Ty := ⟨.func, 1, 8, false, [.nilf], [.func], true, 0, .junk⟩
def t227 : Ty := ⟨.func, 1, 8, false, [.nilf], [.func], true, 0, .junk⟩
def t228 : Ty := ⟨.func, 1, 8, false, [.nilf], [.func], true, 0, .junk⟩
def t229 : Ty := ⟨.ptr 3, 1, 8, false, [.nilp], [.ptr 3], true, 0, .junk⟩
def t230 : Ty := ⟨.func, 1, 8, false, [.nilf], [.func], true, 0, .junk⟩
def t231 : Ty := ⟨.func, 1, 8, false, [.nilf], [.func], true, 0, .junk⟩
def t232 : Ty := ⟨.func, 1, 8, false, [.nilf], [.func], true, 0, .junk⟩
def t233 : Ty := ⟨.ptr 225, 1, 8, false, [.nilp], [.ptr 225], true, 0, .junk⟩
def t234 : Ty := ⟨.tup, 1, 0, false, [.junk], [], true, 0, .junk⟩
def t235 : Ty := ⟨.func, 1, 8, false, [.nilf], [.func], true, 0, .junk⟩
def t236 : Ty := ⟨.func, 1, 8, false, [.nilf], [.func], true, 0, .junk⟩
def t237 : Ty := ⟨.func, 1, 8, false, [.nilf], [.func], true, 0, .junk⟩
def t238 : Ty := ⟨.struct [(17, 0), (17, 1), (17, 2), (9, 3)], 4, 40, true, [.nilp, .nilp, .nilp, .str ⟨#[]⟩], [], true, 0, .junk⟩
def t239 : Ty := ⟨.struct [(17, 0), (17, 1), (17, 2), (9, 3)], 4, 40, true, [.nilp, .nilp, .nilp, .str ⟨#[]⟩], [], true, 0, .junk⟩
def t240 : Ty := ⟨.arr 0 16, 0, 0, true, [], [], true, 0, .junk⟩
def t241 : Ty := ⟨.struct [(240, 0)], 0, 0, true, [], [], true, 0, .junk⟩
def t242 : Ty := ⟨.struct [(240, 0)], 0, 0, true, [], [], true, 0, .junk⟩
def t243 : Ty := ⟨.int .u8, 1, 1, false, [.int .u8 0], [.int .u8], true, 0, .junk⟩
def t244 : Ty := ⟨.int .u8, 1, 1, false, [.int .u8 0], [.int .u8], true, 0, .junk⟩
def t245 : Ty := ⟨.func, 1, 8, false, [.nilf], [.func], true, 0, .junk⟩
def t246 : Ty := ⟨.ptr 5, 1, 8, false, [.nilp], [.ptr 5], true, 0, .junk⟩
def t247 : Ty := ⟨.int .i32, 1, 4, false, [.int .i32 0], [.int .i32], true, 0, .junk⟩
def t248 : Ty := ⟨.int .i32, 1, 4, false, [.int .i32 0], [.int .i32], true, 0, .junk⟩
def t249 : Ty := ⟨.struct [(12, 0), (12, 1), (216, 2), (243, 3), (5, 4), (5, 5), (244, 6), (245, 7), (246, 8), (247, 9), (248, 10)], 11, 48, true, [.int .u64 0, .int .u64 0, .int .u32 0, .int .u8 0, .int .u8 0, .int .u8 0, .int .u8 0, .nilf, .nilp, .int .i32 0, .int .i32 0], [], true, 0, .junk⟩
def t250 : Ty := ⟨.struct [(12, 0), (12, 1), (216, 2), (243, 3), (5, 4), (5, 5), (244, 6), (245, 7), (246, 8), (247, 9), (248, 10)], 11, 48, true, [.int .u64 0, .int .u64 0, .int .u32 0, .int .u8 0, .int .u8 0, .int .u8 0, .int .u8 0, .nilf, .nilp, .int .i32 0, .int .i32 0], [], true, 0, .junk⟩
def t251 : Ty := ⟨.other, 1, 8, false, [.nilp], [], true, 0, .junk⟩
def tab (t : Nat) : Ty :=
 match ltN t 252 with
 | false => Ty.no
 | true => match ltN t 126 with
  | true => match ltN t 63 with
   | true => match ltN t 31 with
    | true => match ltN t 15 with
     | true => match ltN t 7 with
      | true => match ltN t 3 with
       | true => match ltN t 1 with
        | true => t0
        | false => match ltN t 2 with
         | true => t1
         | false => t2
       | false => match ltN t 5 with
        | true => match ltN t 4 with
         | true => t3
         | false => t4
        | false => match ltN t 6 with
         | true => t5
         | false => t6
      | false => match ltN t 11 with
       | true => match ltN t 9 with
        | true => match ltN t 8 with
         | true => t7
         | false => t8
        | false => match ltN t 10 with
         | true => t9
         | false => t10
       | false => match ltN t 13 with
        | true => match ltN t 12 with
         | true => t11
         | false => t12
        | false => match ltN t 14 with
         | true => t13
         | false => t14
     | false => match ltN t 23 with
      | true => match ltN t 19 with
       | true => match ltN t 17 with
        | true => match ltN t 16 with
         | true => t15
         | false => t16
        | false => match ltN t 18 with
         | true => t17
         | false => t18
       | false => match ltN t 21 with
        | true => match ltN t 20 with
         | true => t19
         | false => t20
        | false => match ltN t 22 with
         | true => t21
         | false => t22
      | false => match ltN t 27 with
       | true => match ltN t 25 with
        | true => match ltN t 24 with
         | true => t23
         | false => t24
        | false => match ltN t 26 with
         | true => t25
         | false => t26
       | false => match ltN t 29 with
        | true => match ltN t 28 with
         | true => t27
         | false => t28
        | false => match ltN t 30 with
         | true => t29
         | false => t30
    | false => match ltN t 47 with
     | true => match ltN t 39 with
      | true => match ltN t 35 with
       | true => match ltN t 33 with
        | true => match ltN t 32 with
         | true => t31
         | false => t32
        | false => match ltN t 34 with
         | true => t33
         | false => t34
       | false => match ltN t 37 with
        | true => match ltN t 36 with
         | true => t35
         | false => t36
        | false => match ltN t 38 with
         | true => t37
         | false => t38
      | false => match ltN t 43 with
       | true => match ltN t 41 with
        | true => match ltN t 40 with
         | true => t39
         | false => t40
        | false => match ltN t 42 with
         | true => t41
         | false => t42
       | false => match ltN t 45 with
        | true => match ltN t 44 with
         | true => t43
         | false => t44
        | false => match ltN t 46 with
         | true => t45
         | false => t46
     | false => match ltN t 55 with
      | true => match ltN t 51 with
       | true => match ltN t 49 with
        | true => match ltN t 48 with
         | true => t47
         | false => t48
        | false => match ltN t 50 with
         | true => t49
         | false => t50
       | false => match ltN t 53 with
        | true => match ltN t 52 with
         | true => t51
         | false => t52
        | false => match ltN t 54 with
         | true => t53
         | false => t54
      | false => match ltN t 59 with
       | true => match ltN t 57 with
        | true => match ltN t 56 with
         | true => t55
         | false => t56
        | false => match ltN t 58 with
         | true => t57
         | false => t58
       | false => match ltN t 61 with
        | true => match ltN t 60 with
         | true => t59
         | false => t60
        | false => match ltN t 62 with
         | true => t61
         | false => t62
   | false => match ltN t 94 with
    | true => match ltN t 78 with
     | true => match ltN t 70 with
      | true => match ltN t 66 with
       | true => match ltN t 64 with
        | true => t63
        | false => match ltN t 65 with
         | true => t64
         | false => t65
       | false => match ltN t 68 with
        | true => match ltN t 67 with
         | true => t66
         | false => t67
        | false => match ltN t 69 with
         | true => t68
         | false => t69
      | false => match ltN t 74 with
       | true => match ltN t 72 with
        | true => match ltN t 71 with
         | true => t70
         | false => t71
        | false => match ltN t 73 with
         | true => t72
         | false => t73
       | false => match ltN t 76 with
        | true => match ltN t 75 with
         | true => t74
         | false => t75
        | false => match ltN t 77 with
         | true => t76
         | false => t77
     | false => match ltN t 86 with
      | true => match ltN t 82 with
       | true => match ltN t 80 with
        | true => match ltN t 79 with
         | true => t78
         | false => t79
        | false => match ltN t 81 with
         | true => t80
         | false => t81
       | false => match ltN t 84 with
        | true => match ltN t 83 with
         | true => t82
         | false => t83
        | false => match ltN t 85 with
         | true => t84
         | false => t85
      | false => match ltN t 90 with
       | true => match ltN t 88 with
        | true => match ltN t 87 with
         | true => t86
         | false => t87
        | false => match ltN t 89 with
         | true => t88
         | false => t89
       | false => match ltN t 92 with
        | true => match ltN t 91 with
         | true => t90
         | false => t91
        | false => match ltN t 93 with
         | true => t92
         | false => t93
    | false => match ltN t 110 with
     | true => match ltN t 102 with
      | true => match ltN t 98 with
       | true => match ltN t 96 with
        | true => match ltN t 95 with
         | true => t94
         | false => t95
        | false => match ltN t 97 with
         | true => t96
         | false => t97
       | false => match ltN t 100 with
        | true => match ltN t 99 with
         | true => t98
         | false => t99
        | false => match ltN t 101 with
         | true => t100
         | false => t101
      | false => match ltN t 106 with
       | true => match ltN t 104 with
        | true => match ltN t 103 with
         | true => t102
         | false => t103
        | false => match ltN t 105 with
         | true => t104
         | false => t105
       | false => match ltN t 108 with
        | true => match ltN t 107 with
         | true => t106
         | false => t107
        | false => match ltN t 109 with
         | true => t108
         | false => t109
     | false => match ltN t 118 with
      | true => match ltN t 114 with
       | true => match ltN t 112 with
        | true => match ltN t 111 with
         | true => t110
         | false => t111
        | false => match ltN t 113 with
         | true => t112
         | false => t113
       | false => match ltN t 116 with
        | true => match ltN t 115 with
         | true => t114
         | false => t115
        | false => match ltN t 117 with
         | true => t116
         | false => t117
      | false => match ltN t 122 with
       | true => match ltN t 120 with
        | true => match ltN t 119 with
         | true => t118
         | false => t119
        | false => match ltN t 121 with
         | true => t120
         | false => t121
       | false => match ltN t 124 with
        | true => match ltN t 123 with
         | true => t122
         | false => t123
        | false => match ltN t 125 with
         | true => t124
         | false => t125
  | false => match ltN t 189 with
   | true => match ltN t 157 with
    | true => match ltN t 141 with
     | true => match ltN t 133 with
      | true => match ltN t 129 with
       | true => match ltN t 127 with
        | true => t126
        | false => match ltN t 128 with
         | true => t127
         | false => t128
       | false => match ltN t 131 with
        | true => match ltN t 130 with
         | true => t129
         | false => t130
        | false => match ltN t 132 with
         | true => t131
         | false => t132
      | false => match ltN t 137 with
       | true => match ltN t 135 with
        | true => match ltN t 134 with
         | true => t133
         | false => t134
        | false => match ltN t 136 with
         | true => t135
         | false => t136
       | false => match ltN t 139 with
        | true => match ltN t 138 with
         | true => t137
         | false => t138
        | false => match ltN t 140 with
         | true => t139
         | false => t140
     | false => match ltN t 149 with
      | true => match ltN t 145 with
       | true => match ltN t 143 with
        | true => match ltN t 142 with
         | true => t141
         | false => t142
        | false => match ltN t 144 with
         | true => t143
         | false => t144
       | false => match ltN t 147 with
        | true => match ltN t 146 with
         | true => t145
         | false => t146
        | false => match ltN t 148 with
         | true => t147
         | false => t148
      | false => match ltN t 153 with
       | true => match ltN t 151 with
        | true => match ltN t 150 with
         | true => t149
         | false => t150
        | false => match ltN t 152 with
         | true => t151
         | false => t152
       | false => match ltN t 155 with
        | true => match ltN t 154 with
         | true => t153
         | false => t154
        | false => match ltN t 156 with
         | true => t155
         | false => t156
    | false => match ltN t 173 with
     | true => match ltN t 165 with
      | true => match ltN t 161 with
       | true => match ltN t 159 with
        | true => match ltN t 158 with
         | true => t157
         | false => t158
        | false => match ltN t 160 with
         | true => t159
         | false => t160
       | false => match ltN t 163 with
        | true => match ltN t 162 with
         | true => t161
         | false => t162
        | false => match ltN t 164 with
         | true => t163
         | false => t164
      | false => match ltN t 169 with
       | true => match ltN t 167 with
        | true => match ltN t 166 with
         | true => t165
         | false => t166
        | false => match ltN t 168 with
         | true => t167
         | false => t168
       | false => match ltN t 171 with
        | true => match ltN t 170 with
         | true => t169
         | false => t170
        | false => match ltN t 172 with
         | true => t171
         | false => t172
     | false => match ltN t 181 with
      | true => match ltN t 177 with
       | true => match ltN t 175 with
        | true => match ltN t 174 with
         | true => t173
         | false => t174
        | false => match ltN t 176 with
         | true => t175
         | false => t176
       | false => match ltN t 179 with
        | true => match ltN t 178 with
         | true => t177
         | false => t178
        | false => match ltN t 180 with
         | true => t179
         | false => t180
      | false => match ltN t 185 with
       | true => match ltN t 183 with
        | true => match ltN t 182 with
         | true => t181
         | false => t182
        | false => match ltN t 184 with
         | true => t183
         | false => t184
       | false => match ltN t 187 with
        | true => match ltN t 186 with
         | true => t185
         | false => t186
        | false => match ltN t 188 with
         | true => t187
         | false => t188
   | false => match ltN t 220 with
    | true => match ltN t 204 with
     | true => match ltN t 196 with
      | true => match ltN t 192 with
       | true => match ltN t 190 with
        | true => t189
        | false => match ltN t 191 with
         | true => t190
         | false => t191
       | false => match ltN t 194 with
        | true => match ltN t 193 with
         | true => t192
         | false => t193
        | false => match ltN t 195 with
         | true => t194
         | false => t195
      | false => match ltN t 200 with
       | true => match ltN t 198 with
        | true => match ltN t 197 with
         | true => t196
         | false => t197
        | false => match ltN t 199 with
         | true => t198
         | false => t199
       | false => match ltN t 202 with
        | true => match ltN t 201 with
         | true => t200
         | false => t201
        | false => match ltN t 203 with
         | true => t202
         | false => t203
     | false => match ltN t 212 with
      | true => match ltN t 208 with
       | true => match ltN t 206 with
        | true => match ltN t 205 with
         | true => t204
         | false => t205
        | false => match ltN t 207 with
         | true => t206
         | false => t207
       | false => match ltN t 210 with
        | true => match ltN t 209 with
         | true => t208
         | false => t209
        | false => match ltN t 211 with
         | true => t210
         | false => t211
      | false => match ltN t 216 with
       | true => match ltN t 214 with
        | true => match ltN t 213 with
         | true => t212
         | false => t213
        | false => match ltN t 215 with
         | true => t214
         | false => t215
       | false => match ltN t 218 with
        | true => match ltN t 217 with
         | true => t216
         | false => t217
        | false => match ltN t 219 with
         | true => t218
         | false => t219
    | false => match ltN t 236 with
     | true => match ltN t 228 with
      | true => match ltN t 224 with
       | true => match ltN t 222 with
        | true => match ltN t 221 with
         | true => t220
         | false => t221
        | false => match ltN t 223 with
         | true => t222
         | false => t223
       | false => match ltN t 226 with
        | true => match ltN t 225 with
         | true => t224
         | false => t225
        | false => match ltN t 227 with
         | true => t226
         | false => t227
      | false => match ltN t 232 with
       | true => match ltN t 230 with
        | true => match ltN t 229 with
         | true => t228
         | false => t229
        | false => match ltN t 231 with
         | true => t230
         | false => t231
       | false => match ltN t 234 with
        | true => match ltN t 233 with
         | true => t232
         | false => t233
        | false => match ltN t 235 with
         | true => t234
         | false => t235
     | false => match ltN t 244 with
      | true => match ltN t 240 with
       | true => match ltN t 238 with
        | true => match ltN t 237 with
         | true => t236
         | false => t237
        | false => match ltN t 239 with
         | true => t238
         | false => t239
       | false => match ltN t 242 with
        | true => match ltN t 241 with
         | true => t240
         | false => t241
        | false => match ltN t 243 with
         | true => t242
         | false => t243
      | false => match ltN t 248 with
       | true => match ltN t 246 with
        | true => match ltN t 245 with
         | true => t244
         | false => t245
        | false => match ltN t 247 with
         | true => t246
         | false => t247
       | false => match ltN t 250 with
        | true => match ltN t 249 with
         | true => t248
         | false => t249
        | false => match ltN t 251 with
         | true => t250
         | false => t251
theorem tab_eq : (List.range 252).map (fun t => ({ tab t with md := 0, tm := .junk } : Ty)) = (List.range 252).map fun t => (tyOf Try.prog t).getD Ty.no := by kernel_rfl
theorem tab_no : (List.range 252).map (fun t => match (tab t).ok with | true => Ty.no | false => tab t) = (List.range 252).map fun _ => Ty.no := by kernel_rfl
theorem tab_ty : ∀ t, tyOf Try.prog t = some { tab t with md := 0, tm := .junk } ∨ tab t = Ty.no := by
  intro t
  by_cases h : t < 252
  · have e := congrArg (fun l : List Ty => l[t]?) tab_eq
    have e2 := congrArg (fun l : List Ty => l[t]?) tab_no
    simp only [List.getElem?_map, List.getElem?_range h, Option.map_some, Option.some.injEq] at e e2
    cases ht : tyOf Try.prog t with
    | none =>
      right
      rw [ht] at e
      have hk : (tab t).ok = false := congrArg Ty.ok e
      rw [hk] at e2; exact e2
    | some x => left; rw [ht] at e; rw [e]; rfl
  · right
    have hb : ltN t 252 = false := by cases hc : ltN t 252 with
      | false => rfl
      | true => exact absurd (by simpa [ltN_eq] using hc) h
    unfold tab; rw [hb]
theorem tab_ok : TabOk Try.prog tab := ⟨tab_ty, by kernel_rfl⟩
end Go.Proofs.Ytjdbmfipciadfaa.A
namespace Go.Proofs.Ytjdbmfipciadfaa.A
open Go Go.Pt
def tabC : Nat → Ty := fun t => match beN t 69 with | true => { tab t with md := 2 } | false => tab t
theorem tabC_ok : TabOk Try.prog tabC := tab_ok.md 69 2 rfl
set_option maxHeartbeats 4000000
set_option maxRecDepth 100000
namespace C
inductive F158cR where
  | v0 (y0 y1 y2 : Int) (y3 : List AV)
  | v1
def F158cR.av : F158cR → AV
  | .v0 y0 y1 y2 _ => .vs 0 1 y0 y1 y2
  | .v1  => .nils
def F158cR.hp : F158cR → List Ent
  | .v0 _ _ _ y3 => [.vec 1 y3]
  | .v1  => []
noncomputable def f158c (o : Ops) (_fuel : Nat) (a0 : Int) : Option F158cR :=
  ifB (o.cmp .lss a0 0)
  (none)
  (ifB (o.cmp .gtr (o.ar .sub .i64 a0 (o.ar .sub .i64 0 0)) 0)
   (req (o.le 0 0) <|
    req (o.le 0 (o.len [])) <|
    req (o.mks (o.ar .sub .i64 a0 (o.ar .sub .i64 0 0)) (o.ar .sub .i64 a0 (o.ar .sub .i64 0 0)) 1) <|
    req (o.le 0 0) <|
    req (o.le (o.sum 0 0) (o.ar .sub .i64 a0 (o.ar .sub .i64 0 0))) <|
    some (.v0 0 0 (o.ar .sub .i64 a0 (o.ar .sub .i64 0 0)) (o.rep (o.ar .sub .i64 a0 (o.ar .sub .i64 0 0)) (.int .u8 0))))
   (some (.v1 )))
theorem f158c_call (o : Ops) (ho : o = stdOps) (fuel : Nat) (a0 : Int) {R : F158cR} (H : f158c o fuel a0 = some R) (K : AV → List Ent → Prop) (E : AV → List Ent → Prop) (h : K R.av R.hp) : CallA Try.prog 158 [.nils, .int .i64 a0] [] K E := by
  refine call_wk fun K' hK => ?_
  refine call_keep (n₀ := 0) tabC_ok Try.func158 rfl rfl rfl rfl ?_
  intro J hJ
  obtain rfl : o = J.o := by rw [ho, hJ]; rfl
  unfold f158c at H
  cbv
  repeat' (first
    | ((with_reducible refine awp_go2 ?_); cbv)
    | exact none_go H
    | (refine KeepQ.mk [0] (by decide) ?_; cbv; cases H; refine hK _ _ _ _ ?_ ?_ rfl h <;> cbv)
    | (refine KeepQ.mk [] (by decide) ?_; cbv; cases H; refine hK _ _ _ _ ?_ ?_ rfl h <;> cbv)
    | (refine ifB_go H ?_ ?_ <;> clear H <;> intro hh H)
    | (refine req_go H ?_; clear H; intro hh H))
def sh69 {α : Type} (e : AV) (k : List AV → Option α) : Option α := match e with | .sl 1 x0 .no => k x0 | _ => none
theorem sh69_go {α : Type} {e : AV} {k : List AV → Option α} {r : α} {G : AV → Prop} (H : sh69 e k = some r) (h : ∀ (x0 : List AV), k x0 = some r → G (.sl 1 x0 .no)) : G e := by
  unfold sh69 at H
  split at H
  · exact h _ H
  · exact nomatch H
theorem sh69_get {α : Type} {x : Option AV} {k : List AV → Option α} {r : α} {G : AV → Prop} (H : getA x (fun e => sh69 e k) = some r) (h : ∀ (x0 : List AV), x = some (.sl 1 x0 .no) → k x0 = some r → G (.sl 1 x0 .no)) : ∀ e, x = some e → G e := fun e he => by
  have H2 : sh69 e k = some r := by rw [he] at H; exact H
  unfold sh69 at H2
  split at H2
  · exact h _ he H2
  · exact nomatch H2
theorem sh69_find {α : Type} {x : Option AV} {k : List AV → Option α} {z : Option α} {r : α} {G1 : AV → Prop} {G2 : Prop} (H : findA x (fun e => sh69 e k) z = some r) (h1 : ∀ (x0 : List AV), k x0 = some r → G1 (.sl 1 x0 .no)) (h2 : z = some r → G2) : (∀ e, x = some e → G1 e) ∧ (x = none → G2) :=
  findA_go H (fun _ He => sh69_go He h1) h2
inductive F139cR where
  | v0 (y0 y1 y2 : Int) (y3 : List AV)
def F139cR.av : F139cR → AV
  | .v0 y0 y1 y2 _ => .vs 0 1 y0 y1 y2
def F139cR.hp : F139cR → List Ent
  | .v0 _ _ _ y3 => [.vec 1 y3]
inductive F139cL0 where
  | x0 (y0 : Int)
noncomputable def f139c_l0 (o : Ops) (fuel : Nat) (a0 : List AV) : Nat → Int → Int → Option F139cL0
  | 0, _, _ => none
  | n + 1, w2, w3 =>
    ifB (o.cmp .lss w3 (o.len a0))
    (req (o.inb w3 (o.len a0)) <|
     getA (o.get a0 w3) fun e => sh69 e fun v4 =>
     ifB (o.cmp .lss (o.ar .add .i64 w2 (o.len v4)) 0)
     (none)
     (f139c_l0 o fuel a0 n (o.ar .add .i64 w2 (o.len v4)) (o.ar .add .i64 w3 1)))
    (some (.x0 w2))
theorem f139c_l0_go {J : Jd} {n₀ : Nat} (hJ : J = std Try.prog n₀) {o : Ops} (hJo : J.o = o) {fuel : Nat} {a0 : List AV} {w2i : Int} {w3i : Int} {α : Type} {k : F139cL0 → Option α} {r : α} {c : Code} {Q : Ex → St → Prop} {s : St}
    (H : bindR (f139c_l0 o fuel a0 fuel w2i w3i) k = some r) (hn : n₀ ≤ 0) (hle : Le s ⟨[(11, .int .i64 w3i), (10, .int .i64 (o.len a0)), (9, .sl 1 a0 .no), (3, .int .i64 w2i), (0, .sl 1 a0 .no)], [], 36⟩)
    (round : ∀ X, k X = some r → ∀ (n : Nat) (w2 : Int) (w3 : Int), f139c_l0 o fuel a0 (n + 1) w2 w3 = some X → ∀ N : St → Prop,
      (∀ (env : List (Nat × AV)) (w2' : Int) (w3' : Int) (v : List Ent), f139c_l0 o fuel a0 n w2' w3' = some X → wkEnv env [(11, .int .i64 w3'), (10, .int .i64 (o.len a0)), (9, .sl 1 a0 .no), (3, .int .i64 w2'), (0, .sl 1 a0 .no)] → N ⟨env, [] ++ v, 36⟩) → awp J tabC c (thenQ N Q) ⟨[(11, .int .i64 w3), (10, .int .i64 (o.len a0)), (9, .sl 1 a0 .no), (3, .int .i64 w2), (0, .sl 1 a0 .no)], [], 36⟩) : J.code (.loop c) Q s := by
  subst hJo
  obtain ⟨X, hX, HX⟩ := bindR_go H
  refine loop_at (β := Nat × Int × Int) hJ tabC_ok (fun | (_, w2, w3) => ⟨[(11, .int .i64 w3), (10, .int .i64 (J.o.len a0)), (9, .sl 1 a0 .no), (3, .int .i64 w2), (0, .sl 1 a0 .no)], [], 36⟩) (fun | (n, w2, w3) => f139c_l0 J.o fuel a0 n w2 w3 = some X) (fun | (n, _, _) => n) (fuel, w2i, w3i) hX hle (by rintro ⟨_, _, _⟩; exact hn) ?_
  rintro ⟨n, w2, w3⟩ hb N hN
  rcases n with _ | n
  · exact none_go (show (none : Option F139cL0) = some X from hb)
  exact round X HX n w2 w3 hb N fun env w2' w3' v h1 h2 => hN _ (n, w2', w3') h1 (Nat.lt_succ_self n) ⟨h2, by first | (cbv; done) | (cbv; repeat' (first | exact trivial | exact rfl | apply And.intro)), rfl, rfl⟩
inductive F139cL1 where
  | x0 (y0 : Int) (y1 : List AV)
noncomputable def f139c_l1 (o : Ops) (fuel : Nat) (a0 : List AV) (r6 r8 : Int) : Nat → Int → Int → List AV → Option F139cL1
  | 0, _, _, _ => none
  | n + 1, w11, w12, w13 =>
    ifB (o.cmp .lss w12 (o.len a0))
    (req (o.inb w12 (o.len a0)) <|
     getA (o.get a0 w12) fun e => sh69 e fun v14 =>
     req (o.le 0 r6) <|
     req (o.le 0 w11) <|
     req (o.le (o.sum (o.sum r6 w11) (o.len v14)) r8) <|
     req (o.le (o.sum (o.sum r6 w11) (o.len v14)) (o.len w13)) <|
     req (o.room w13 v14 1) <|
     f139c_l1 o fuel a0 r6 r8 n (o.sum w11 (o.len v14)) (o.ar .add .i64 w12 1) (o.lay w13 (o.sum r6 w11) v14))
    (some (.x0 w11 w13))
theorem f139c_l1_go {J : Jd} {n₀ : Nat} (hJ : J = std Try.prog n₀) {o : Ops} (hJo : J.o = o) {fuel : Nat} {a0 : List AV} {r6 r8 : Int} {w11i : Int} {w12i : Int} {w13i : List AV} {α : Type} {k : F139cL1 → Option α} {r : α} {c : Code} {Q : Ex → St → Prop} {s : St}
    (H : bindR (f139c_l1 o fuel a0 r6 r8 fuel w11i w12i w13i) k = some r) (hn : n₀ ≤ 1) (hle : Le s ⟨[(27, .int .i64 w12i), (26, .int .i64 (o.len a0)), (25, .sl 1 a0 .no), (6, .vs 0 1 r6 w11i r8)], [.vec 1 w13i], 36⟩)
    (round : ∀ X, k X = some r → ∀ (n : Nat) (w11 : Int) (w12 : Int) (w13 : List AV), f139c_l1 o fuel a0 r6 r8 (n + 1) w11 w12 w13 = some X → ∀ N : St → Prop,
      (∀ (env : List (Nat × AV)) (w11' : Int) (w12' : Int) (w13' : List AV) (v : List Ent), f139c_l1 o fuel a0 r6 r8 n w11' w12' w13' = some X → wkEnv env [(27, .int .i64 w12'), (26, .int .i64 (o.len a0)), (25, .sl 1 a0 .no), (6, .vs 0 1 r6 w11' r8)] → N ⟨env, [.vec 1 w13'] ++ v, 36⟩) → awp J tabC c (thenQ N Q) ⟨[(27, .int .i64 w12), (26, .int .i64 (o.len a0)), (25, .sl 1 a0 .no), (6, .vs 0 1 r6 w11 r8)], [.vec 1 w13], 36⟩) : J.code (.loop c) Q s := by
  subst hJo
  obtain ⟨X, hX, HX⟩ := bindR_go H
  refine loop_at (β := Nat × Int × Int × List AV) hJ tabC_ok (fun | (_, w11, w12, w13) => ⟨[(27, .int .i64 w12), (26, .int .i64 (J.o.len a0)), (25, .sl 1 a0 .no), (6, .vs 0 1 r6 w11 r8)], [.vec 1 w13], 36⟩) (fun | (n, w11, w12, w13) => f139c_l1 J.o fuel a0 r6 r8 n w11 w12 w13 = some X) (fun | (n, _, _, _) => n) (fuel, w11i, w12i, w13i) hX hle (by rintro ⟨_, _, _, _⟩; exact hn) ?_
  rintro ⟨n, w11, w12, w13⟩ hb N hN
  rcases n with _ | n
  · exact none_go (show (none : Option F139cL1) = some X from hb)
  exact round X HX n w11 w12 w13 hb N fun env w11' w12' w13' v h1 h2 => hN _ (n, w11', w12', w13') h1 (Nat.lt_succ_self n) ⟨h2, by first | (cbv; done) | (cbv; repeat' (first | exact trivial | exact rfl | apply And.intro)), rfl, rfl⟩
inductive F139cL2 where
  | x0 (y0 : Int) (y1 : List AV)
noncomputable def f139c_l2 (o : Ops) (fuel : Nat) (a0 : List AV) : Nat → Int → Int → List AV → Option F139cL2
  | 0, _, _, _ => none
  | n + 1, w19, w20, w21 =>
    ifB (o.cmp .lss w20 (o.len a0))
    (req (o.inb w20 (o.len a0)) <|
     getA (o.get a0 w20) fun e => sh69 e fun v22 =>
     req (o.le 0 0) <|
     req (o.le 0 w19) <|
     req (o.le (o.sum (o.sum 0 w19) (o.len v22)) 0) <|
     req (o.le (o.sum (o.sum 0 w19) (o.len v22)) (o.len w21)) <|
     req (o.room w21 v22 1) <|
     f139c_l2 o fuel a0 n (o.sum w19 (o.len v22)) (o.ar .add .i64 w20 1) (o.lay w21 (o.sum 0 w19) v22))
    (some (.x0 w19 w21))
theorem f139c_l2_go {J : Jd} {n₀ : Nat} (hJ : J = std Try.prog n₀) {o : Ops} (hJo : J.o = o) {fuel : Nat} {a0 : List AV} {w19i : Int} {w20i : Int} {w21i : List AV} {α : Type} {k : F139cL2 → Option α} {r : α} {c : Code} {Q : Ex → St → Prop} {s : St}
    (H : bindR (f139c_l2 o fuel a0 fuel w19i w20i w21i) k = some r) (hn : n₀ ≤ 1) (hle : Turn n₀ s ⟨[(27, .int .i64 w20i), (26, .int .i64 (o.len a0)), (25, .sl 1 a0 .no), (6, .vs 0 1 0 w19i 0)], [.vec 1 w21i], 36⟩)
    (round : ∀ X, k X = some r → ∀ (n : Nat) (w19 : Int) (w20 : Int) (w21 : List AV), f139c_l2 o fuel a0 (n + 1) w19 w20 w21 = some X → ∀ N : St → Prop,
      (∀ (env : List (Nat × AV)) (w19' : Int) (w20' : Int) (w21' : List AV) (v : List Ent), f139c_l2 o fuel a0 n w19' w20' w21' = some X → wkEnv env [(27, .int .i64 w20'), (26, .int .i64 (o.len a0)), (25, .sl 1 a0 .no), (6, .vs 0 1 0 w19' 0)] → N ⟨env, [.vec 1 w21'] ++ v, 36⟩) → awp J tabC c (thenQ N Q) ⟨[(27, .int .i64 w20), (26, .int .i64 (o.len a0)), (25, .sl 1 a0 .no), (6, .vs 0 1 0 w19 0)], [.vec 1 w21], 36⟩) : J.code (.loop c) Q s := by
  subst hJo
  obtain ⟨X, hX, HX⟩ := bindR_go H
  refine loop_turn_at (β := Nat × Int × Int × List AV) hJ tabC_ok (fun | (_, w19, w20, w21) => ⟨[(27, .int .i64 w20), (26, .int .i64 (J.o.len a0)), (25, .sl 1 a0 .no), (6, .vs 0 1 0 w19 0)], [.vec 1 w21], 36⟩) (fun | (n, w19, w20, w21) => f139c_l2 J.o fuel a0 n w19 w20 w21 = some X) (fun | (n, _, _, _) => n) (fuel, w19i, w20i, w21i) hX hle (by rintro ⟨_, _, _, _⟩; exact hn) ?_
  rintro ⟨n, w19, w20, w21⟩ hb N hN
  rcases n with _ | n
  · exact none_go (show (none : Option F139cL2) = some X from hb)
  exact round X HX n w19 w20 w21 hb N fun env w19' w20' w21' v h1 h2 => hN _ (n, w19', w20', w21') h1 (Nat.lt_succ_self n) (Turn.le ⟨h2, by cbv; repeat' (first | exact trivial | exact rfl | apply And.intro), rfl, rfl⟩ (by simp; omega))
noncomputable def f139c (o : Ops) (fuel : Nat) (a0 : List AV) : Option F139cR :=
  bindR (f139c_l0 o fuel a0 fuel 0 0) fun r => match r with
  | .x0 y5 => bindR (f158c o fuel y5) fun r => match r with
    | .v0 r6 r7 r8 r9 => bindR (f139c_l1 o fuel a0 r6 r8 fuel r7 0 r9) fun r => match r with
      | .x0 y15 y16 => some (.v0 r6 y15 r8 y16)
    | .v1  => bindR (f139c_l2 o fuel a0 fuel 0 0 []) fun r => match r with
      | .x0 y23 y24 => some (.v0 0 y23 0 y24)
theorem f139c_call (o : Ops) (ho : o = stdOps) (fuel : Nat) (a0 : List AV) {R : F139cR} (H : f139c o fuel a0 = some R) (K : AV → List Ent → Prop) (E : AV → List Ent → Prop) (h : K R.av R.hp) : CallA Try.prog 139 [.sl 1 a0 .no] [] K E := by
  refine call_wk fun K' hK => ?_
  refine call_keep (n₀ := 0) tabC_ok Try.func139 rfl rfl rfl rfl ?_
  intro J hJ
  obtain rfl : o = J.o := by rw [ho, hJ]; rfl
  unfold f139c at H
  cbv
  repeat' (first
    | ((with_reducible refine awp_go2 ?_); cbv)
    | exact none_go H
    | (cases H; replace H := HX2; clear HX2; (try dsimp only at H))
    | (cases H; replace H := HX1; clear HX1; (try dsimp only at H))
    | (cases H; replace H := HX0; clear HX0; (try dsimp only at H))
    | (refine KeepQ.mk [0] (by decide) ?_; cbv; cases H; refine hK _ _ _ _ ?_ ?_ rfl h <;> cbv)
    | (refine hN0 _ _ _ _ H ?_; with_reducible refine wkEnv_go2 ?_; cbv)
    | (refine hN1 _ _ _ _ _ H ?_; with_reducible refine wkEnv_go2 ?_; cbv)
    | (refine hN2 _ _ _ _ _ H ?_; with_reducible refine wkEnv_go2 ?_; cbv)
    | (refine ifB_go H ?_ ?_ <;> clear H <;> intro hh H)
    | (refine req_go H ?_; clear H; intro hh H)
    | (refine sh69_get H ?_; clear H; intro _ he H; cbv)
    | (obtain ⟨R, hR, H2⟩ := bindR_go H; refine call_in hJ [] (by decide) rfl rfl rfl (f158c_call _ ho _ _ hR _ _ ?_); clear H hR; rcases R with ⟨_, _, _, _⟩ | ⟨⟩; all_goals (replace H := H2; clear H2; (try dsimp only at H); cbv))
    | (refine f139c_l0_go hJ (o := J.o) rfl H (by decide) ⟨?_, ?_, rfl, rfl⟩ ?_
       · cbv; (repeat' (first | exact trivial | exact rfl | apply And.intro))
       · cbv; (repeat' (first | exact trivial | exact rfl | apply And.intro))
       clear H
       intro X0 HX0 n _ _ H Nx0 hN0
       rw [f139c_l0] at H
       cbv)
    | (refine f139c_l1_go hJ (o := J.o) rfl H (by decide) ⟨?_, ?_, rfl, rfl⟩ ?_
       · cbv; (repeat' (first | exact trivial | exact rfl | apply And.intro))
       · cbv; (repeat' (first | exact trivial | exact rfl | apply And.intro))
       clear H
       intro X1 HX1 n _ _ _ H Nx1 hN1
       rw [f139c_l1] at H
       cbv)
    | (refine f139c_l2_go hJ (o := J.o) rfl H (by decide) (Turn.trans (turn_nilr 6 1 rfl (leN_t rfl)) (Turn.le ⟨?_, ?_, rfl, rfl⟩ (leN_t rfl))) ?_
       · cbv; (repeat' (first | exact trivial | exact rfl | apply And.intro))
       · cbv; (repeat' (first | exact trivial | exact rfl | apply And.intro))
       clear H
       intro X2 HX2 n _ _ _ H Nx2 hN2
       rw [f139c_l2] at H
       cbv))
end C
end Go.Proofs.Ytjdbmfipciadfaa.A
namespace Go.Proofs.Ytjdbmfipciadfaa.A
open Go Go.Pt C
def joinA : List AV → Option (List AV)
  | [] => some []
  | .sl 1 ys .no :: r => (joinA r).map (ys ++ ·)
  | _ => none
def slV1 (x : List AV) : AV := .sl 1 x .no
theorem joinA_is : ∀ {a : List AV} {l : List AV}, joinA a = some l → ∃ xs : List (List AV), a = xs.map slV1 ∧ l = xs.flatten
  | [], l, h => ⟨[], rfl, by simp [joinA] at h; simp [h]⟩
  | x :: r, l, h => by
    unfold joinA at h
    split at h
    · rename_i e; simp at e
    · rename_i ys r' e
      obtain ⟨rfl, rfl⟩ := List.cons.inj e
      obtain ⟨m, hm, rfl⟩ := Option.map_eq_some_iff.1 h
      obtain ⟨xs, rfl, rfl⟩ := joinA_is hm
      exact ⟨ys :: xs, rfl, rfl⟩
    · exact nomatch h
theorem joinA_map : ∀ xs : List (List AV), joinA (xs.map slV1) = some xs.flatten
  | [] => rfl
  | x :: xs => by simp only [List.map_cons, slV1, joinA, joinA_map xs, List.flatten_cons, Option.map_some]
theorem cat_l0 {f : Nat} : ∀ (rest pre : List (List AV)) (n : Nat) (w : Int), rest.length < n → 0 ≤ w → w + rest.flatten.length ≤ 2 ^ 60 → (pre ++ rest).length ≤ 2 ^ 60 →
    f139c_l0 stdOps f ((pre ++ rest).map slV1) n w pre.length = some (.x0 (w + rest.flatten.length))
  | [], pre, n + 1, w, hn, h0, h1, h2 => by
    rw [f139c_l0, ifB_f (by simp [stdOps])]; simp
  | x :: rest, pre, n + 1, w, hn, h0, h1, h2 => by
    have hl : (x :: rest).flatten.length = x.length + rest.flatten.length := by simp
    have hp : (pre ++ x :: rest).length = pre.length + rest.length + 1 := by simp; omega
    simp only [List.length_cons] at hn
    have hadd : stdOps.ar .add .i64 w (stdOps.len x) = w + x.length := wr_i64 (by simp [stdOps]; omega) (by simp [stdOps]; omega)
    have hidx : stdOps.ar .add .i64 (pre.length : Int) 1 = ((pre ++ [x]).length : Int) := by
      rw [show stdOps.ar .add .i64 (pre.length : Int) 1 = (pre.length : Int) + 1 from wr_i64 (by omega) (by omega)]; simp
    rw [f139c_l0, ifB_t (by simp [stdOps]; omega), req_eq _ (by simp [stdOps]; omega), getA_eq (v := slV1 x) (by simp [stdOps])]
    simp only [slV1, sh69]
    rw [ifB_f (by rw [hadd]; simp [stdOps]; omega), hadd, hidx]
    have := cat_l0 (f := f) rest (pre ++ [x]) n (w + x.length) (by omega) (by omega) (by omega) (by simpa using h2)
    rw [List.append_assoc, List.singleton_append] at this
    refine this.trans ?_
    rw [hl]; congr 2; omega
theorem cat_l1 {f N : Nat} : ∀ (rest pre : List (List AV)) (n : Nat) (row : List AV), rest.length < n → row.length = N → N ≤ 2 ^ 40 → pre.flatten.length + rest.flatten.length = N → row.take pre.flatten.length = pre.flatten → (pre ++ rest).length ≤ 2 ^ 60 →
    f139c_l1 stdOps f ((pre ++ rest).map slV1) 0 N n pre.flatten.length pre.length row = some (.x0 N (pre ++ rest).flatten)
  | [], pre, n + 1, row, hn, hr, hN, hs, ht, h2 => by
    rw [f139c_l1, ifB_f (by simp [stdOps])]
    simp only [List.flatten_nil, List.length_nil, Nat.add_zero] at hs
    rw [hs, List.take_of_length_le (by omega)] at ht
    rw [ht, hs]; simp
  | x :: rest, pre, n + 1, row, hn, hr, hN, hs, ht, h2 => by
    have hl : (x :: rest).flatten.length = x.length + rest.flatten.length := by simp
    have hp : (pre ++ x :: rest).length = pre.length + rest.length + 1 := by simp; omega
    simp only [List.length_cons] at hn
    have hidx : stdOps.ar .add .i64 (pre.length : Int) 1 = ((pre ++ [x]).length : Int) := by
      rw [show stdOps.ar .add .i64 (pre.length : Int) 1 = (pre.length : Int) + 1 from wr_i64 (by omega) (by omega)]; simp
    have hsum : stdOps.sum (pre.flatten.length : Int) (stdOps.len x) = ((pre ++ [x]).flatten.length : Int) := by simp [stdOps]
    rw [f139c_l1, ifB_t (by simp [stdOps]; omega), req_eq _ (by simp [stdOps]; omega), getA_eq (v := slV1 x) (by simp [stdOps])]
    simp only [slV1, sh69]
    refine req_is (show (0 : Int) ≤ 0 by omega) <| req_is (show (0 : Int) ≤ pre.flatten.length by omega) <| req_is (show (0 : Int) + pre.flatten.length + x.length ≤ N by omega) <| req_is (show (0 : Int) + pre.flatten.length + x.length ≤ row.length by omega) <|
      req_is (show (row.length + x.length) * 1 ≤ 2 ^ 47 by omega) ?_
    rw [hidx, hsum]
    have hlay : stdOps.lay row (stdOps.sum 0 (pre.flatten.length : Int)) x = pre.flatten ++ x ++ row.drop (pre.flatten.length + x.length) := by
      show row.take ((0 : Int) + pre.flatten.length).toNat ++ x ++ row.drop (((0 : Int) + pre.flatten.length).toNat + x.length) = _
      rw [show ((0 : Int) + pre.flatten.length).toNat = pre.flatten.length by omega, ht]
    rw [hlay]
    have hfl : (pre ++ [x]).flatten = pre.flatten ++ x := by simp
    have hfn : (pre ++ [x]).flatten.length = pre.flatten.length + x.length := by rw [hfl, List.length_append]
    have := cat_l1 (f := f) (N := N) rest (pre ++ [x]) n (pre.flatten ++ x ++ row.drop (pre.flatten.length + x.length)) (by omega) (by rw [List.length_append, List.length_append, List.length_drop]; omega) hN (by omega)
      (by rw [hfn, hfl, ← List.length_append, List.take_left]) (by simpa using h2)
    rw [List.append_assoc, List.singleton_append] at this
    exact this
theorem cat_l2 {f : Nat} : ∀ (rest pre : List (List AV)) (n : Nat), rest.length < n → (pre ++ rest).flatten = [] → (pre ++ rest).length ≤ 2 ^ 60 →
    f139c_l2 stdOps f ((pre ++ rest).map slV1) n 0 pre.length [] = some (.x0 0 [])
  | [], pre, n + 1, hn, hs, h2 => by rw [f139c_l2, ifB_f (by simp [stdOps])]
  | x :: rest, pre, n + 1, hn, hs, h2 => by
    have hx : x = [] := by
      have : (pre ++ x :: rest).flatten = pre.flatten ++ (x ++ rest.flatten) := by simp
      rw [this] at hs
      exact (List.append_eq_nil_iff.1 (List.append_eq_nil_iff.1 hs).2).1
    subst hx
    have hp : (pre ++ [] :: rest).length = pre.length + rest.length + 1 := by simp; omega
    simp only [List.length_cons] at hn
    have hidx : stdOps.ar .add .i64 (pre.length : Int) 1 = ((pre ++ [([] : List AV)]).length : Int) := by
      rw [show stdOps.ar .add .i64 (pre.length : Int) 1 = (pre.length : Int) + 1 from wr_i64 (by omega) (by omega)]; simp
    rw [f139c_l2, ifB_t (by simp [stdOps]; omega), req_eq _ (by simp [stdOps]; omega), getA_eq (v := slV1 []) (by simp [stdOps])]
    simp only [slV1, sh69]
    refine req_is (show (0 : Int) ≤ 0 by omega) <| req_is (show (0 : Int) ≤ 0 by omega) <| req_is (show (0 : Int) + 0 + (0 : Nat) ≤ 0 by omega) <| req_is (show (0 : Int) + 0 + (0 : Nat) ≤ (0 : Nat) by omega) <|
      req_is (show (0 + 0) * 1 ≤ 2 ^ 47 by omega) ?_
    rw [hidx]
    have := cat_l2 (f := f) rest (pre ++ [[]]) n (by omega) (by simpa using hs) (by simpa using h2)
    rw [List.append_assoc, List.singleton_append] at this
    exact this
theorem cat_is (xs : List (List AV)) (f : Nat) (hf : xs.length < f) (hl : xs.flatten.length ≤ 2 ^ 40) (hx : xs.length ≤ 2 ^ 60) :
    f139c stdOps f (xs.map slV1) = some (.v0 0 xs.flatten.length xs.flatten.length xs.flatten) := by
  have h0 : f139c_l0 stdOps f (xs.map slV1) f 0 0 = some (.x0 (0 + xs.flatten.length)) := cat_l0 (f := f) xs [] f 0 hf (by omega) (by omega) (by simpa using hx)
  have e1 : stdOps.ar .sub .i64 0 0 = 0 := show IntKind.i64.wrap ((0 : Int) - 0) = 0 by decide
  have e2 : stdOps.ar .sub .i64 (xs.flatten.length : Int) 0 = xs.flatten.length := by
    have : stdOps.ar .sub .i64 (xs.flatten.length : Int) 0 = (xs.flatten.length : Int) - 0 := wr_i64 (by omega) (by omega)
    rw [this]; omega
  rw [f139c, bindR_eq h0]
  simp only [Int.zero_add]
  by_cases hz : xs.flatten.length = 0
  · have hg : f158c stdOps f (xs.flatten.length : Int) = some .v1 := by
      rw [f158c, ifB_f (by simp only [stdOps, decide_eq_false_iff_not]; omega), e1, e2, ifB_f (by simp only [stdOps, decide_eq_false_iff_not]; omega)]
    rw [bindR_eq hg]
    have hn : xs.flatten = [] := List.length_eq_zero_iff.1 hz
    have h2 : f139c_l2 stdOps f (xs.map slV1) f 0 0 [] = some (.x0 0 []) := cat_l2 (f := f) xs [] f hf (by simpa using hn) (by simpa using hx)
    simp only
    rw [bindR_eq h2, hn]
    rfl
  · have hg : f158c stdOps f (xs.flatten.length : Int) = some (.v0 0 0 xs.flatten.length (List.replicate xs.flatten.length (.int .u8 0))) := by
      rw [f158c, ifB_f (by simp only [stdOps, decide_eq_false_iff_not]; omega), e1, e2, ifB_t (by simp only [stdOps, decide_eq_true_eq]; omega)]
      refine req_is (show (0 : Int) ≤ 0 by omega) <| req_is (show (0 : Int) ≤ (0 : Nat) by omega) <| req_is (show (xs.flatten.length : Int) = xs.flatten.length ∧ 0 ≤ (xs.flatten.length : Int) ∧ (xs.flatten.length : Int) * (1 : Nat) ≤ 2 ^ 47 from ⟨rfl, by omega, by omega⟩) <|
        req_is (show (0 : Int) ≤ 0 by omega) <| req_is (show (0 : Int) + 0 ≤ xs.flatten.length by omega) ?_
      simp [stdOps]
    rw [bindR_eq hg]
    have h1 : f139c_l1 stdOps f (xs.map slV1) 0 xs.flatten.length f 0 0 (List.replicate xs.flatten.length (.int .u8 0)) = some (.x0 xs.flatten.length xs.flatten) := cat_l1 (f := f) (N := xs.flatten.length) xs [] f (List.replicate xs.flatten.length (.int .u8 0)) hf (by simp) hl (by simp) (by simp) (by simpa using hx)
    simp only
    rw [bindR_eq h1]
inductive F139R where
  | v0 (y0 : List AV)
def F139R.av : F139R → AV
  | .v0 y0 => .sl 1 y0 .no
def F139R.hp : F139R → List Ent
  | .v0 _ => [.dead]
def f139 (_o : Ops) (_fuel : Nat) (a0 : List AV) : Option F139R := match joinA a0 with
  | some l => if l.length ≤ 2 ^ 40 ∧ a0.length ≤ 2 ^ 60 then some (.v0 l) else none
  | none => none
theorem f139_call (o : Ops) (_ho : o = stdOps) (fuel : Nat) (a0 : List AV) {t : Tok} {R : F139R} (H : f139 o fuel a0 = some R) (K : AV → List Ent → Prop) (E : AV → List Ent → Prop) (h : K R.av R.hp) : CallA Try.prog 139 [.sl 1 a0 t] [] K E := by
  unfold f139 at H
  split at H
  case h_2 => exact nomatch H
  rename_i l hl
  split at H
  case isFalse => exact nomatch H
  rename_i hb
  simp only [Option.some.injEq] at H
  subst H
  obtain ⟨xs, rfl, rfl⟩ := joinA_is hl
  refine call_weak (P := Try.prog) (n₀ := 0) (J := std Try.prog 0) rfl (args' := [.sl 1 (xs.map slV1) .no]) ⟨Wk.no, trivial⟩ ?_
  show CallA Try.prog 139 _ _ _ _
  refine call_told (f139c_call stdOps rfl (xs.length + 1) _ (cat_is xs _ (by omega) hb.1 (by simpa using hb.2)) (fun r τ => r = .vs 0 1 0 xs.flatten.length xs.flatten.length ∧ τ = [.vec 1 xs.flatten]) E ⟨rfl, rfl⟩) ?_
  rintro r τ ⟨rfl, rfl⟩
  refine told_sl rfl (Int.le_refl 0) (by simp) ?_
  rw [show ((xs.flatten.take (0 + (xs.flatten.length : Int)).toNat).drop (0 : Int).toNat) = xs.flatten from by
    rw [List.take_of_length_le (by simp)]; rfl]
  exact h
end Go.Proofs.Ytjdbmfipciadfaa.A
namespace Go.Proofs.Ytjdbmfipciadfaa.A
open Go Go.Pt
theorem range_vars {P : Program} {n₀ : Nat} {J : Jd} (hJ : J = std P n₀) {g : Operand} {ps : Array Tmp} {asg body : Code} {Q : Ex → St → Prop} {s : St} {f : FuncId} {caps : List AV} (hg : s.ev g = .func f caps)
    (h : ∀ p a b, p = ps.toList → a = asg → b = body → CallA P f (.yld (lenN s.hp) :: caps) (snoc s.hp (.lp p a b s.env s.n .ready none)) (rangeQ Q s (lenN s.hp)) (fun _ _ => False)) : J.code (.rangeFunc g ps asg body) Q s :=
  range_at hJ hg (h _ _ _ rfl rfl rfl)
theorem yield_vars {P : Program} {n₀ : Nat} {tab : Nat → Ty} {σ : List Ent} {J : Jd} (hJ : J = std P n₀) (ht : TabOk P tab) {i : Nat} {args : List AV} {K : AV → List Ent → Prop} {ps ps' : List Nat} {asg asg' body body' : Code} {env : List (Nat × AV)} {n : Nat} {pe : Option Code}
    (hi : nth σ i = some (.lp ps asg body env n .ready pe)) (h1 : ps = ps') (h2 : asg = asg') (h3 : body = body') (hl : beN (lenN ps') (lenN args) = true) (hp : allLt ps' n = true)
    (h : ∀ J, J = std P (lenN σ) → awp J tab asg' (asgQ J tab i body' K) ⟨zipEnv ps' args env, σ, n⟩) : J.yld i args σ K := by
  subst h1 h2 h3
  exact yield_at hJ ht hi hl hp h
def nav (k : ByteArray) : AV := .str k
def unnav : AV → ByteArray
  | .str b => b
  | _ => .empty
theorem perm_nav {ks : List AV} {ks0 : List ByteArray} (h : ks.Perm (ks0.map nav)) : ∃ l : List ByteArray, l.Perm ks0 ∧ ks = l.map nav := by
  refine ⟨ks.map unnav, ?_, ?_⟩
  · have := h.map unnav
    rw [List.map_map] at this
    rwa [show unnav ∘ nav = id from rfl, List.map_id] at this
  · rw [List.map_map]
    conv => lhs; rw [← List.map_id ks]
    refine List.map_congr_left fun k hk => ?_
    obtain ⟨k', _, rfl⟩ := List.mem_map.1 (h.mem_iff.1 hk)
    rfl
def tabS : Nat → Ty := fun t => match beN t 66 with | true => { tab t with md := 1 } | false => tab t
theorem tabS_ok : TabOk Try.prog tabS := tab_ok.md 66 1 rfl
def asgS : Code := .region 2
  #[{ dst := some 5, op := .assign (.tmp 7), type := 9, pos := "iter.go:51", after := #[], guard := none }] false
def bodyS : Code := .block 1 (.region 3
  #[{ dst := some 8, op := .load 66 (.tmp 2), type := 66, pos := "iter.go:52", after := #[], guard := none },
    { dst := some 9, op := .move (.tmp 5), type := 9, pos := "iter.go:52", after := #[], guard := none },
    { dst := some 10, op := .buildSlice 66 1 #[(0, .tmp 9)], type := 66, pos := "iter.go:52", after := #[{ on := 1, ground := .data }], guard := none },
    { dst := some 11, op := .call { callee := .builtin .append, args := #[.tmp 8, .tmp 10], argTypes := #[66, 66] }, type := 66, pos := "iter.go:52", after := #[{ on := 0, ground := .data }, { on := 2, ground := .data }], guard := none },
    { dst := none, op := .store 66 (.tmp 2) (.tmp 11), type := 0, pos := "iter.go:52", after := #[{ on := 3, ground := .data }, { on := 3, ground := .chain }, { on := 0, ground := .phase }, { on := 1, ground := .phase }, { on := 2, ground := .phase }, { on := 3, ground := .phase }], guard := none }] false)
def envS (g : Nat) : List (Nat × AV) := [(6, .func g [.ptr 1 0]), (4, .nils), (2, .ptr 2 0), (0, .nils), (1, .func g [.ptr 1 0])]
def TS (p : List Nat) (a b : Code) (e : List (Nat × AV)) (q : Int) (ks : List AV) : List Ent :=
  [.dead, .var [.mp 0], .var [.vs 5 1 0 q q], .lp p a b e 13 .ready none, .dead, .vec 1 ks]
set_option maxHeartbeats 8000000 in
set_option maxRecDepth 100000 in
theorem app_one {J : Jd} {n : Nat} (hJ : J = std Try.prog n) (g : Nat) (p : List Nat) (a b : Code) (hp : p = [7]) (ha : a = asgS) (hb : b = bodyS) (ks : List AV) (q : Int) (hq : q = ks.length) (k : ByteArray) (hl : ks.length < 2 ^ 42) (N : St → Prop)
    (h : ∀ env, Go.Pt.look env 5 = AV.ptr 4 0 → Go.Pt.look env 0 = AV.yld 3 → N ⟨env, [.dead, .var [.mp 0], .var [.vs 6 1 0 (q + 1) (q + 1)], .lp p a b (envS g) 13 .ready none, .dead, .dead, .vec 1 (ks ++ [nav k])], 14⟩) :
    aops J tabS (kR2 9 false).toList ((kR2 9 false).toList.drop 1) ⟨(8, .tup [nav k, .junk]) :: kEnv 4 3, TS p a b (envS g) q ks, 14⟩ (fun s => awp J tabS (kRest 9 179 4 false) (thenQ N (fun _ _ => False)) s) (fun _ _ => False) := by
  have hN := h
  clear h
  cbv
  repeat' (first
    | with_reducible exact id
    | exact trivial
    | intro hh
    | with_reducible refine And.intro ?_ ?_
    | (with_reducible first | refine awp_go2 ?_ | refine aops_go2 ?_ | refine strip_go2 ?_ | refine draw_go2 ?_ | refine frames_go2 ?_); cbv)
  refine yield_vars hJ tabS_ok rfl hp ha hb rfl rfl ?_
  intro J2 hJ2
  cbv
  repeat' (first
    | with_reducible exact id
    | exact trivial
    | intro hh
    | with_reducible refine And.intro ?_ ?_
    | (with_reducible first | refine awp_go2 ?_ | refine aops_go2 ?_ | refine strip_go2 ?_ | refine draw_go2 ?_ | refine frames_go2 ?_); cbv)
  all_goals have ho : J2.o = stdOps := by rw [hJ2]; rfl
  · show J2.o.is 0 0
    rw [ho]; simp [stdOps]
  · show J2.o.le 0 q
    rw [ho]; simp [stdOps, hq]
  · show J2.o.le q (J2.o.len ks)
    rw [ho]; simp [stdOps, hq]
  · show J2.o.room (J2.o.sub ks 0 q) [nav k] 16
    rw [ho]; simp [stdOps, hq]; omega
  · have e0 : J2.o.sub ks 0 q = ks := by rw [ho]; simp [stdOps, hq]
    have e : ∀ z : AV, J2.o.len (J2.o.apnd ks [z]) = q + 1 := fun z => by rw [ho]; simp [stdOps, hq]
    have e2 : ∀ z : AV, J2.o.apnd ks [z] = ks ++ [z] := fun z => by rw [ho]; simp [stdOps]
    show N ⟨_, [_, _, .var [.vs 6 1 0 (J2.o.len (J2.o.apnd (J2.o.sub ks 0 q) [nav k])) (J2.o.len (J2.o.apnd (J2.o.sub ks 0 q) [nav k]))], _, _, _, .vec 1 (J2.o.apnd (J2.o.sub ks 0 q) [nav k])], _⟩
    rw [e0, e, e2]
    exact hN _ rfl rfl
theorem turn_one {g : Nat} {p : List Nat} {a b : Code} {q : Int} {ks : List AV} {env : List (Nat × AV)} (h5 : Go.Pt.look env 5 = AV.ptr 4 0) (h0 : Go.Pt.look env 0 = AV.yld 3) :
    Turn 5 ⟨env, [.dead, .var [.mp 0], .var [.vs 6 1 0 q q], .lp p a b (envS g) 13 .ready none, .dead, .dead, .vec 1 ks], 14⟩ ⟨kEnv 4 3, TS p a b (envS g) q ks, 14⟩ := by
  intro ρ x w hs
  have hs' : RelS ρ ⟨kEnv 4 3, [.dead, .var [.mp 0], .var [.vs 6 1 0 q q], .lp p a b (envS g) 13 .ready none, .dead, .dead, .vec 1 ks], 14⟩ x w := ⟨hs.defers, hs.size, hs.rel, fun t => by
    by_cases e5 : t = 5
    · subst e5; have := hs.vals 5; rw [show Go.Pt.look (St.mk env _ 14).env 5 = AV.ptr 4 0 from h5] at this; exact this
    · by_cases e0 : t = 0
      · subst e0; have := hs.vals 0; rw [show Go.Pt.look (St.mk env _ 14).env 0 = AV.yld 3 from h0] at this; exact this
      · have : Go.Pt.look (kEnv 4 3) t = AV.junk := by
          have n5 : beN 5 t = false := by cases hb : beN 5 t with | false => rfl | true => exact absurd (beN_t hb).symm e5
          have n0 : beN 0 t = false := by cases hb : beN 0 t with | false => rfl | true => exact absurd (beN_t hb).symm e0
          simp [kEnv, Go.Pt.look, n5, n0]
        show Val _ _ _ _ (Go.Pt.look (kEnv 4 3) t) _
        rw [this]; exact Val.junk⟩
  have := Turn.pack (n₀ := 5) (s := ⟨kEnv 4 3, [.dead, .var [.mp 0], .var [.vs 6 1 0 q q], .lp p a b (envS g) 13 .ready none, .dead, .dead, .vec 1 ks], 14⟩) [6] (by decide) (Nat.le_add_left 5 2) ρ x w hs'
  exact this
theorem app_keys {g mt et : Nat} {fn : Func} (hf : Try.prog.funcs[g]? = some fn) (hb : fn.body = some (keysCode mt 9 179 4 false)) (hname : (fn.name == "runtime.NumGoroutine") = false) (hnt : fn.ntmps = 14) (hres : fn.results = #[]) (hmt : Try.prog.underlying mt = some (.map 9 et))
    (p : List Nat) (a b : Code) (hp : p = [7]) (ha : a = asgS) (hbd : b = bodyS) (es : List (AV × AV)) (ks0 : List (ByteArray)) (hes : es.map Prod.fst = ks0.map nav) (hlen : ks0.length < 2 ^ 42) (K E : AV → List Ent → Prop)
    (hload : ∀ J, J = std Try.prog 4 → aops J tabS (kR0 mt).toList [{ dst := some 4, op := .load mt (.tmp 1), type := mt, pos := "iter.go:27", after := #[], guard := none }] ⟨argEnv 0 [.yld 3, .ptr 1 0], [.mp es, .var [.mp 0], .var [.nils], .lp p a b (envS g) 13 .ready none], 14⟩
      (fun s' => ∃ env, s' = ⟨env, [.mp es, .var [.mp 0], .var [.nils], .lp p a b (envS g) 13 .ready none], 14⟩ ∧ Go.Pt.look env 4 = .mp 0 ∧ Go.Pt.look env 0 = .yld 3) (fun _ _ => False))
    (h : ∀ (l : List (ByteArray)) (q : Int), q = l.length → l.Perm ks0 → ∀ r, K r [.mp es, .var [.mp 0], .var [.vs 4 1 0 q q], .lp p a b (envS g) 13 .ready none, .vec 1 (l.map nav)]) :
    CallA Try.prog g [.yld 3, .ptr 1 0] [.mp es, .var [.mp 0], .var [.nils], .lp p a b (envS g) 13 .ready none] K E := by
  have hq : ∀ ks, ks.Perm (es.map Prod.fst) → retQ tabS fn.results.toList (rangeN 4 ++ [5]) K E .normal ⟨[(0, .yld 3)], setN (TS p a b (envS g) ks.length ks) 0 (.mp es), 14⟩ := by
    intro ks hks
    rw [hes] at hks
    obtain ⟨l, hl, rfl⟩ : ∃ l : List (ByteArray), l.Perm ks0 ∧ ks = l.map nav := perm_nav hks
    rw [hres]
    have := h l ((l.map nav).length : Nat) (by simp) hl
    exact this _
  refine call_of_code (n₀ := 4) tabS_ok (Q := fun x s => retQ tabS fn.results.toList (rangeN 4 ++ [5]) K E x s) (fun x s0 hx => ⟨s0, .inl rfl, [5], by decide, hx⟩) hf hb hname rfl (by rw [hnt]; decide) ?_
  rw [hnt]
  refine keys_code (σ := [.mp es, .var [.mp 0], .var [.nils], .lp p a b (envS g) 13 .ready none]) tabS_ok hmt rfl (m := 0) (es := es) rfl (fun ks => TS p a b (envS g) ks.length ks) (fun _ => Nat.le_succ 5) (fun _ => rfl) hload ?_ ?_ hq
  · have := turn_nil (n₀ := 5) (s := ⟨kEnv 4 3, setN (snoc [.mp es, .var [.mp 0], .var [.nils], .lp p a b (envS g) 13 .ready none] .dead) 0 .dead, 14⟩) 2 0 1 (cs := [.nils]) rfl rfl (Nat.le_refl 5)
    exact this
  · intro J hJ ks k ⟨rest, hr⟩ N hN
    have hk : k ∈ ks0.map nav := by rw [← hes]; exact hr.mem_iff.1 (by simp)
    obtain ⟨k', _, rfl⟩ := List.mem_map.1 hk
    have hl := hr.length_eq
    rw [hes] at hl
    simp only [List.length_append, List.length_cons, List.length_map] at hl
    refine app_one hJ g p a b hp ha hbd ks ks.length rfl k' (by omega) N fun env h5 h0 => hN _ ?_
    have := turn_one (g := g) (p := p) (a := a) (b := b) (q := (ks.length : Int) + 1) (ks := ks ++ [nav k']) h5 h0
    have e : (((ks ++ [nav k']).length : Nat) : Int) = (ks.length : Int) + 1 := by simp
    show Turn 5 _ ⟨kEnv 4 3, TS p a b (envS g) (((ks ++ [nav k']).length : Nat) : Int) (ks ++ [nav k']), 14⟩
    rw [e]; exact this
set_option maxHeartbeats 8000000 in
set_option maxRecDepth 100000 in
theorem load_156 (es : List (AV × AV)) (p : List Nat) (a b : Code) (J : Jd) (_hJ : J = std Try.prog 4) : aops J tabS (kR0 116).toList [{ dst := some 4, op := .load 116 (.tmp 1), type := 116, pos := "iter.go:27", after := #[], guard := none }] ⟨argEnv 0 [.yld 3, .ptr 1 0], [.mp es, .var [.mp 0], .var [.nils], .lp p a b (envS 156) 13 .ready none], 14⟩
      (fun s' => ∃ env, s' = ⟨env, [.mp es, .var [.mp 0], .var [.nils], .lp p a b (envS 156) 13 .ready none], 14⟩ ∧ Go.Pt.look env 4 = .mp 0 ∧ Go.Pt.look env 0 = .yld 3) (fun _ _ => False) := by
  generalize hN : (fun s' : St => ∃ env, s' = ⟨env, [.mp es, .var [.mp 0], .var [.nils], .lp p a b (envS 156) 13 .ready none], 14⟩ ∧ Go.Pt.look env 4 = .mp 0 ∧ Go.Pt.look env 0 = .yld 3) = N
  cbv
  subst hN
  exact ⟨_, rfl, rfl, rfl⟩
def Names1 (g : Nat) : Prop := ∀ (p : List Nat) (a b : Code) (_ : p = [7]) (_ : a = asgS) (_ : b = bodyS) (es : List (AV × AV)) (ks0 : List (ByteArray)) (_ : es.map Prod.fst = ks0.map nav) (_ : ks0.length < 2 ^ 42) (K E : AV → List Ent → Prop)
    (_ : ∀ (l : List (ByteArray)) (q : Int), q = l.length → l.Perm ks0 → ∀ r, K r [.mp es, .var [.mp 0], .var [.vs 4 1 0 q q], .lp p a b (envS g) 13 .ready none, .vec 1 (l.map nav)]),
    CallA Try.prog g [.yld 3, .ptr 1 0] [.mp es, .var [.mp 0], .var [.nils], .lp p a b (envS g) 13 .ready none] K E
theorem keys_156 : Names1 156 := fun p a b hp ha hb es ks0 hes hlen K E h =>
  app_keys (mt := 116) (et := 142) Try.func156 rfl rfl rfl rfl (by kernel_rfl) p a b hp ha hb es ks0 hes hlen K E (load_156 es p a b) h
set_option maxHeartbeats 8000000 in
set_option maxRecDepth 100000 in
theorem f164_call {g : Nat} (hg : Names1 g) (es : List (AV × AV)) (ks0 : List (ByteArray)) (hes : es.map Prod.fst = ks0.map nav) (hlen : ks0.length < 2 ^ 42) (K E : AV → List Ent → Prop)
    (h : ∀ (l : List (ByteArray)) (q : Int), q = l.length → l.Perm ks0 → K (.vs 2 1 0 q q) [.mp es, .var [.mp 0], .vec 1 (l.map nav)]) :
    CallA Try.prog 164 [.nils, .func g [.ptr 1 0]] [.mp es, .var [.mp 0]] K E := by
  refine call_fn (n₀ := 2) tabS_ok [4] Try.func164 rfl rfl rfl rfl (by decide) ?_
  intro J hJ
  cbv
  repeat' (first
    | with_reducible exact id
    | exact trivial
    | intro hh
    | with_reducible refine And.intro ?_ ?_
    | (with_reducible first | refine awp_go2 ?_ | refine aops_go2 ?_ | refine strip_go2 ?_ | refine draw_go2 ?_ | refine frames_go2 ?_); cbv)
  refine range_vars hJ rfl ?_
  intro p a b hp ha hb
  refine hg p a b hp ha hb es ks0 hes hlen _ _ ?_
  intro l q hq hl r
  have hh := h l q hq hl
  generalize l.map nav = L at hh ⊢
  cbv
  repeat' (first
    | with_reducible exact id
    | exact trivial
    | intro hh
    | with_reducible refine And.intro ?_ ?_
    | (with_reducible first | refine awp_go2 ?_ | refine aops_go2 ?_ | refine strip_go2 ?_ | refine draw_go2 ?_ | refine frames_go2 ?_); cbv)
  exact hh
set_option maxHeartbeats 8000000 in
set_option maxRecDepth 100000 in
theorem f154_call {g : Nat} (hg : Names1 g) (es : List (AV × AV)) (ks0 : List (ByteArray)) (hes : es.map Prod.fst = ks0.map nav) (hlen : ks0.length < 2 ^ 42) (K E : AV → List Ent → Prop)
    (h : ∀ (l : List (ByteArray)) (q : Int), q = l.length → l.Perm ks0 → K (.vs 2 1 0 q q) [.mp es, .var [.mp 0], .vec 1 (l.map nav)]) :
    CallA Try.prog 154 [.func g [.ptr 1 0]] [.mp es, .var [.mp 0]] K E := by
  refine call_fn (n₀ := 2) tabS_ok [2] Try.func154 rfl rfl rfl rfl (by decide) ?_
  intro J hJ
  cbv
  refine call_in hJ [0, 1] (by decide) rfl rfl rfl (f164_call hg es ks0 hes hlen _ _ fun l q hq hl => ?_)
  have hh := h l q hq hl
  generalize l.map nav = L at hh ⊢
  cbv
  repeat' (first
    | with_reducible exact id
    | exact trivial
    | intro hh
    | with_reducible refine And.intro ?_ ?_
    | (with_reducible first | refine awp_go2 ?_ | refine aops_go2 ?_ | refine strip_go2 ?_ | refine draw_go2 ?_ | refine frames_go2 ?_); cbv)
  exact hh
end Go.Proofs.Ytjdbmfipciadfaa.A
namespace Go.Proofs
open Go.Shelf
def Ytjdbmfipciadfaa.A.lays190_ren : Go.Shelf.Ren := ⟨fun | 190 => 155 | 125 => 163 | 258 => 165 | 128 => 174 | 129 => 175 | 302 => 176 | 303 => 177 | 304 => 178 | 305 => 179 | 306 => 180 | 307 => 181 | 308 => 182 | 309 => 183 | 310 => 184 | 333 => 190 | 329 => 186 | 330 => 187 | 334 => 191 | 335 => 192 | 336 => 193 | 344 => 195 | n => n, fun | 31 => 66 | 9 => 9 | 3 => 3 | 46 => 204 | 0 => 0 | 51 => 216 | 53 => 218 | 4 => 4 | 183 => 209 | 182 => 208 | 131 => 213 | 5 => 5 | 218 => 225 | 222 => 229 | 228 => 233 | 229 => 234 | n => n, fun | n => n⟩
theorem Ytjdbmfipciadfaa.A.lays190 : Go.Proofs.Lays.n190 Try.prog Ytjdbmfipciadfaa.A.lays190_ren := {
  mixed := by kernel_rfl
  f125 := Try.func163.trans (congrArg some (by kernel_rfl))
  f128 := Try.func174.trans (congrArg some (by kernel_rfl))
  f129 := Try.func175.trans (congrArg some (by kernel_rfl))
  f190 := Try.func155.trans (congrArg some (by kernel_rfl))
  f258 := Try.func165.trans (congrArg some (by kernel_rfl))
  f302 := Try.func176.trans (congrArg some (by kernel_rfl))
  f303 := Try.func177.trans (congrArg some (by kernel_rfl))
  f304 := Try.func178.trans (congrArg some (by kernel_rfl))
  f305 := Try.func179.trans (congrArg some (by kernel_rfl))
  f306 := Try.func180.trans (congrArg some (by kernel_rfl))
  f307 := Try.func181.trans (congrArg some (by kernel_rfl))
  f308 := Try.func182.trans (congrArg some (by kernel_rfl))
  f309 := Try.func183.trans (congrArg some (by kernel_rfl))
  f310 := Try.func184.trans (congrArg some (by kernel_rfl))
  f329 := Try.func186.trans (congrArg some (by kernel_rfl))
  f330 := Try.func187.trans (congrArg some (by kernel_rfl))
  f333 := Try.func190.trans (congrArg some (by kernel_rfl))
  f334 := Try.func191.trans (congrArg some (by kernel_rfl))
  f335 := Try.func192.trans (congrArg some (by kernel_rfl))
  f336 := Try.func193.trans (congrArg some (by kernel_rfl))
  f344 := Try.func195.trans (congrArg some (by kernel_rfl))
  t0 := Try.underlying0
  a0 := Try.isAgg0
  z0 := Try.sizeOf0
  v0 := Try.zeroValue0
  t3 := Try.underlying3
  a3 := Try.isAgg3
  z3 := Try.sizeOf3
  v3 := Try.zeroValue3
  t4 := Try.underlying4
  a4 := Try.isAgg4
  z4 := Try.sizeOf4
  v4 := Try.zeroValue4
  t5 := Try.underlying5
  a5 := Try.isAgg5
  z5 := Try.sizeOf5
  v5 := Try.zeroValue5
  t9 := Try.underlying9
  a9 := Try.isAgg9
  z9 := Try.sizeOf9
  v9 := Try.zeroValue9
  t31 := Try.underlying66
  a31 := Try.isAgg66
  z31 := Try.sizeOf66
  v31 := Try.zeroValue66
  t46 := Try.underlying204
  a46 := Try.isAgg204
  z46 := Try.sizeOf204
  v46 := Try.zeroValue204
  t51 := Try.underlying216
  a51 := Try.isAgg216
  z51 := Try.sizeOf216
  v51 := Try.zeroValue216
  t53 := Try.underlying218
  a53 := Try.isAgg218
  z53 := Try.sizeOf218
  v53 := Try.zeroValue218
  t131 := Try.underlying213
  a131 := Try.isAgg213
  z131 := Try.sizeOf213
  v131 := Try.zeroValue213
  t182 := Try.underlying208
  a182 := Try.isAgg208
  z182 := Try.sizeOf208
  v182 := Try.zeroValue208
  t183 := Try.underlying209
  a183 := Try.isAgg209
  z183 := Try.sizeOf209
  v183 := Try.zeroValue209
  t218 := Try.underlying225
  a218 := Try.isAgg225
  z218 := Try.sizeOf225
  v218 := Try.zeroValue225
  t222 := Try.underlying229
  a222 := Try.isAgg229
  z222 := Try.sizeOf229
  v222 := Try.zeroValue229
  t228 := Try.underlying233
  a228 := Try.isAgg233
  z228 := Try.sizeOf233
  v228 := Try.zeroValue233
  t229 := Try.underlying234
  a229 := Try.isAgg234
  z229 := Try.sizeOf234
  v229 := Try.zeroValue234 }
end Go.Proofs
