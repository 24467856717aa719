/- Numbers as the program holds them, and what its types are. No condition. -/
import Derived.Test.YtggojahlhpijeaaAU
import Derived.Test.YtggojahlhpijeaaN1
import Derived.Test.YtggojahlhpijeaaProg
import Derived.Tactics
namespace Go.Proofs.YtggojahlhpijeaaT
open Go Go.Proofs Go.Proofs.YtggojahlhpijeaaA Go.Proofs.YtggojahlhpijeaaN
theorem mix : Try.prog.follows .mixedOrders = true := by kernel_rfl
@[go_sem] theorem T1 : mkT Try.prog (1 : Nat) = some ⟨.other, 1, 8, [.raw (.nilFunc)]⟩ := by kernel_rfl
@[go_sem] theorem T2 : mkT Try.prog (2 : Nat) = some ⟨(.int .i64), 1, 8, [.i .i64 0]⟩ := by kernel_rfl
@[go_sem] theorem T3 : mkT Try.prog (3 : Nat) = some ⟨(.int .i64), 1, 8, [.i .i64 0]⟩ := by kernel_rfl
@[go_sem] theorem T4 : mkT Try.prog (4 : Nat) = some ⟨.bool, 1, 1, [.b false]⟩ := by kernel_rfl
@[go_sem] theorem T5 : mkT Try.prog (5 : Nat) = some ⟨(.int .u8), 1, 1, [.i .u8 0]⟩ := by kernel_rfl
@[go_sem] theorem T6 : mkT Try.prog (6 : Nat) = some ⟨(.int .u8), 1, 1, [.i .u8 0]⟩ := by kernel_rfl
@[go_sem] theorem T7 : mkT Try.prog (7 : Nat) = some ⟨(.struct [(0, 1, false), (1, 1, false), (2, 1, false), (3, 1, false)] (some [.i, .i, .b, .i])), 4, 24, [.i .i64 0, .i .i64 0, .b false, .i .u8 0]⟩ := by kernel_rfl
@[go_sem] theorem T8 : mkT Try.prog (8 : Nat) = some ⟨(.struct [(0, 1, false), (1, 1, false), (2, 1, false), (3, 1, false)] (some [.i, .i, .b, .i])), 4, 24, [.i .i64 0, .i .i64 0, .b false, .i .u8 0]⟩ := by kernel_rfl
@[go_sem] theorem T9 : mkT Try.prog (9 : Nat) = some ⟨.str, 1, 16, [.s ⟨#[]⟩]⟩ := by kernel_rfl
@[go_sem] theorem T10 : mkT Try.prog (10 : Nat) = some ⟨.str, 1, 16, [.s ⟨#[]⟩]⟩ := by kernel_rfl
@[go_sem] theorem T11 : mkT Try.prog (11 : Nat) = some ⟨.str, 1, 16, [.s ⟨#[]⟩]⟩ := by kernel_rfl
@[go_sem] theorem T12 : mkT Try.prog (12 : Nat) = some ⟨(.int .u64), 1, 8, [.i .u64 0]⟩ := by kernel_rfl
@[go_sem] theorem T13 : mkT Try.prog (13 : Nat) = some ⟨(.struct [(0, 1, false), (1, 1, false)] none), 2, 24, [.s ⟨#[]⟩, .i .u64 0]⟩ := by kernel_rfl
@[go_sem] theorem T14 : mkT Try.prog (14 : Nat) = some ⟨(.struct [(0, 1, false), (1, 1, false)] none), 2, 24, [.s ⟨#[]⟩, .i .u64 0]⟩ := by kernel_rfl
@[go_sem] theorem T15 : mkT Try.prog (15 : Nat) = some ⟨.other, 1, 8, [.raw (.pointer none)]⟩ := by kernel_rfl
@[go_sem] theorem T16 : mkT Try.prog (16 : Nat) = some ⟨.other, 1, 8, [.raw (.pointer none)]⟩ := by kernel_rfl
@[go_sem] theorem T17 : mkT Try.prog (17 : Nat) = some ⟨.other, 1, 8, [.raw (.pointer none)]⟩ := by kernel_rfl
@[go_sem] theorem T18 : mkT Try.prog (18 : Nat) = some ⟨(.struct [(0, 1, false)] none), 1, 8, [.raw (.pointer none)]⟩ := by kernel_rfl
@[go_sem] theorem T19 : mkT Try.prog (19 : Nat) = some ⟨(.struct [(0, 1, false)] none), 1, 8, [.raw (.pointer none)]⟩ := by kernel_rfl
@[go_sem] theorem T20 : mkT Try.prog (20 : Nat) = some ⟨.other, 1, 16, [.raw (.nilIface)]⟩ := by kernel_rfl
@[go_sem] theorem T21 : mkT Try.prog (21 : Nat) = some ⟨(.int .i32), 1, 4, [.i .i32 0]⟩ := by kernel_rfl
@[go_sem] theorem T22 : mkT Try.prog (22 : Nat) = some ⟨.other, 1, 8, [.raw (.nilFunc)]⟩ := by kernel_rfl
@[go_sem] theorem T23 : mkT Try.prog (23 : Nat) = some ⟨.other, 1, 8, [.raw (.nilFunc)]⟩ := by kernel_rfl
@[go_sem] theorem T25 : mkT Try.prog (25 : Nat) = some ⟨.other, 1, 8, [.raw (.nilFunc)]⟩ := by kernel_rfl
@[go_sem] theorem T26 : mkT Try.prog (26 : Nat) = some ⟨.other, 1, 8, [.raw (.nilFunc)]⟩ := by kernel_rfl
@[go_sem] theorem T27 : mkT Try.prog (27 : Nat) = some ⟨.other, 1, 8, [.raw (.nilFunc)]⟩ := by kernel_rfl
@[go_sem] theorem T28 : mkT Try.prog (28 : Nat) = some ⟨.other, 1, 8, [.raw (.nilFunc)]⟩ := by kernel_rfl
@[go_sem] theorem T29 : mkT Try.prog (29 : Nat) = some ⟨.other, 1, 8, [.raw (.nilFunc)]⟩ := by kernel_rfl
@[go_sem] theorem T30 : mkT Try.prog (30 : Nat) = some ⟨.other, 1, 8, [.raw (.nilFunc)]⟩ := by kernel_rfl
@[go_sem] theorem T31 : mkT Try.prog (31 : Nat) = some ⟨.other, 1, 8, [.raw (.nilFunc)]⟩ := by kernel_rfl
@[go_sem] theorem T32 : mkT Try.prog (32 : Nat) = some ⟨(.slice 82), 1, 24, [.sl true 0 []]⟩ := by kernel_rfl
@[go_sem] theorem T33 : mkT Try.prog (33 : Nat) = some ⟨.other, 1, 8, [.raw (.nilFunc)]⟩ := by kernel_rfl
@[go_sem] theorem T34 : mkT Try.prog (34 : Nat) = some ⟨.other, 1, 8, [.raw (.nilFunc)]⟩ := by kernel_rfl
@[go_sem] theorem T35 : mkT Try.prog (35 : Nat) = some ⟨(.slice 84), 1, 24, [.sl true 0 []]⟩ := by kernel_rfl
@[go_sem] theorem T36 : mkT Try.prog (36 : Nat) = some ⟨.other, 1, 8, [.raw (.nilFunc)]⟩ := by kernel_rfl
@[go_sem] theorem T37 : mkT Try.prog (37 : Nat) = some ⟨.other, 1, 8, [.raw (.nilFunc)]⟩ := by kernel_rfl
@[go_sem] theorem T38 : mkT Try.prog (38 : Nat) = some ⟨.other, 1, 8, [.raw (.nilFunc)]⟩ := by kernel_rfl
@[go_sem] theorem T39 : mkT Try.prog (39 : Nat) = some ⟨(.slice 9), 1, 24, [.sl true 0 []]⟩ := by kernel_rfl
@[go_sem] theorem T40 : mkT Try.prog (40 : Nat) = some ⟨.other, 1, 8, [.raw (.nilFunc)]⟩ := by kernel_rfl
@[go_sem] theorem T41 : mkT Try.prog (41 : Nat) = some ⟨.other, 1, 8, [.raw (.nilFunc)]⟩ := by kernel_rfl
@[go_sem] theorem T42 : mkT Try.prog (42 : Nat) = some ⟨.other, 1, 8, [.raw (.nilFunc)]⟩ := by kernel_rfl
@[go_sem] theorem T43 : mkT Try.prog (43 : Nat) = some ⟨.other, 1, 8, [.raw (.nilFunc)]⟩ := by kernel_rfl
@[go_sem] theorem T44 : mkT Try.prog (44 : Nat) = some ⟨.other, 1, 8, [.raw (.nilFunc)]⟩ := by kernel_rfl
@[go_sem] theorem T45 : mkT Try.prog (45 : Nat) = some ⟨(.struct [(0, 1, false), (1, 1, false), (2, 1, false), (3, 1, false), (4, 1, false)] (some [.i, .i, .i, .i, .i])), 5, 40, [.i .i64 0, .i .i64 0, .i .i64 0, .i .i64 0, .i .i64 0]⟩ := by kernel_rfl
@[go_sem] theorem T46 : mkT Try.prog (46 : Nat) = some ⟨(.struct [(0, 1, false), (1, 1, false), (2, 1, false), (3, 1, false), (4, 1, false)] (some [.i, .i, .i, .i, .i])), 5, 40, [.i .i64 0, .i .i64 0, .i .i64 0, .i .i64 0, .i .i64 0]⟩ := by kernel_rfl
@[go_sem] theorem T47 : mkT Try.prog (47 : Nat) = some ⟨.other, 1, 8, [.raw (.nilFunc)]⟩ := by kernel_rfl
@[go_sem] theorem T48 : mkT Try.prog (48 : Nat) = some ⟨(.struct [(0, 1, false), (1, 1, false), (2, 1, false), (3, 1, false), (4, 1, false)] (some [.i, .i, .i, .i, .i])), 5, 40, [.i .i64 0, .i .i64 0, .i .i64 0, .i .i64 0, .i .i64 0]⟩ := by kernel_rfl
@[go_sem] theorem T49 : mkT Try.prog (49 : Nat) = some ⟨.other, 1, 8, [.raw (.nilFunc)]⟩ := by kernel_rfl
@[go_sem] theorem T50 : mkT Try.prog (50 : Nat) = some ⟨.other, 1, 8, [.raw (.nilFunc)]⟩ := by kernel_rfl
@[go_sem] theorem T51 : mkT Try.prog (51 : Nat) = some ⟨.other, 1, 8, [.raw (.nilFunc)]⟩ := by kernel_rfl
@[go_sem] theorem T52 : mkT Try.prog (52 : Nat) = some ⟨.other, 1, 8, [.raw (.nilFunc)]⟩ := by kernel_rfl
@[go_sem] theorem T53 : mkT Try.prog (53 : Nat) = some ⟨.other, 1, 8, [.raw (.nilFunc)]⟩ := by kernel_rfl
@[go_sem] theorem T54 : mkT Try.prog (54 : Nat) = some ⟨.other, 1, 8, [.raw (.nilFunc)]⟩ := by kernel_rfl
@[go_sem] theorem T55 : mkT Try.prog (55 : Nat) = some ⟨.other, 1, 8, [.raw (.nilFunc)]⟩ := by kernel_rfl
@[go_sem] theorem T56 : mkT Try.prog (56 : Nat) = some ⟨(.slice 3), 1, 24, [.sl true 0 []]⟩ := by kernel_rfl
@[go_sem] theorem T57 : mkT Try.prog (57 : Nat) = some ⟨.other, 1, 8, [.raw (.nilFunc)]⟩ := by kernel_rfl
@[go_sem] theorem T58 : mkT Try.prog (58 : Nat) = some ⟨.other, 1, 8, [.raw (.nilFunc)]⟩ := by kernel_rfl
@[go_sem] theorem T59 : mkT Try.prog (59 : Nat) = some ⟨.other, 1, 8, [.raw (.nilFunc)]⟩ := by kernel_rfl
@[go_sem] theorem T60 : mkT Try.prog (60 : Nat) = some ⟨.other, 1, 8, [.raw (.nilFunc)]⟩ := by kernel_rfl
@[go_sem] theorem T61 : mkT Try.prog (61 : Nat) = some ⟨(.slice 100), 1, 24, [.sl true 0 []]⟩ := by kernel_rfl
@[go_sem] theorem T62 : mkT Try.prog (62 : Nat) = some ⟨(.slice 100), 1, 24, [.sl true 0 []]⟩ := by kernel_rfl
@[go_sem] theorem T63 : mkT Try.prog (63 : Nat) = some ⟨.other, 1, 8, [.raw (.nilFunc)]⟩ := by kernel_rfl
@[go_sem] theorem T64 : mkT Try.prog (64 : Nat) = some ⟨.other, 1, 8, [.raw (.nilFunc)]⟩ := by kernel_rfl
@[go_sem] theorem T65 : mkT Try.prog (65 : Nat) = some ⟨.other, 1, 8, [.raw (.nilFunc)]⟩ := by kernel_rfl
@[go_sem] theorem T66 : mkT Try.prog (66 : Nat) = some ⟨.other, 1, 8, [.raw (.nilFunc)]⟩ := by kernel_rfl
@[go_sem] theorem T67 : mkT Try.prog (67 : Nat) = some ⟨(.struct [(0, 1, false), (1, 1, false)] (some [.s, .s])), 2, 32, [.s ⟨#[]⟩, .s ⟨#[]⟩]⟩ := by kernel_rfl
@[go_sem] theorem T68 : mkT Try.prog (68 : Nat) = some ⟨(.struct [(0, 1, false), (1, 1, false)] (some [.s, .s])), 2, 32, [.s ⟨#[]⟩, .s ⟨#[]⟩]⟩ := by kernel_rfl
@[go_sem] theorem T69 : mkT Try.prog (69 : Nat) = some ⟨(.struct [(0, 1, false), (1, 1, false), (2, 1, false), (3, 1, false), (4, 2, true), (6, 1, false), (7, 1, false), (8, 1, false)] (some [.s, .s, .s, .s, .s, .s, .i, .i, .b])), 9, 120, [.s ⟨#[]⟩, .s ⟨#[]⟩, .s ⟨#[]⟩, .s ⟨#[]⟩, .s ⟨#[]⟩, .s ⟨#[]⟩, .i .i64 0, .i .i64 0, .b false]⟩ := by kernel_rfl
@[go_sem] theorem T70 : mkT Try.prog (70 : Nat) = some ⟨(.struct [(0, 1, false), (1, 1, false), (2, 1, false), (3, 1, false), (4, 2, true), (6, 1, false), (7, 1, false), (8, 1, false)] (some [.s, .s, .s, .s, .s, .s, .i, .i, .b])), 9, 120, [.s ⟨#[]⟩, .s ⟨#[]⟩, .s ⟨#[]⟩, .s ⟨#[]⟩, .s ⟨#[]⟩, .s ⟨#[]⟩, .i .i64 0, .i .i64 0, .b false]⟩ := by kernel_rfl
@[go_sem] theorem T72 : mkT Try.prog (72 : Nat) = some ⟨.other, 1, 8, [.raw (.nilFunc)]⟩ := by kernel_rfl
@[go_sem] theorem T73 : mkT Try.prog (73 : Nat) = some ⟨(.struct [(0, 1, false), (1, 1, false)] none), 2, 48, [.sl true 0 [], .sl true 0 []]⟩ := by kernel_rfl
@[go_sem] theorem T74 : mkT Try.prog (74 : Nat) = some ⟨(.struct [(0, 1, false), (1, 1, false)] none), 2, 48, [.sl true 0 [], .sl true 0 []]⟩ := by kernel_rfl
@[go_sem] theorem T75 : mkT Try.prog (75 : Nat) = some ⟨(.struct [(0, 1, false), (1, 1, false), (2, 1, false), (3, 1, false), (4, 1, false), (5, 2, true), (7, 1, false), (8, 1, false), (9, 2, true), (11, 2, true)] none), 13, 288, [.s ⟨#[]⟩, .b false, .sl true 0 [], .sl true 0 [], .sl true 0 [], .sl true 0 [], .sl true 0 [], .sl true 0 [], .sl true 0 [], .sl true 0 [], .sl true 0 [], .sl true 0 [], .sl true 0 []]⟩ := by kernel_rfl
@[go_sem] theorem T76 : mkT Try.prog (76 : Nat) = some ⟨(.struct [(0, 1, false), (1, 1, false), (2, 1, false), (3, 1, false), (4, 1, false), (5, 2, true), (7, 1, false), (8, 1, false), (9, 2, true), (11, 2, true)] none), 13, 288, [.s ⟨#[]⟩, .b false, .sl true 0 [], .sl true 0 [], .sl true 0 [], .sl true 0 [], .sl true 0 [], .sl true 0 [], .sl true 0 [], .sl true 0 [], .sl true 0 [], .sl true 0 [], .sl true 0 []]⟩ := by kernel_rfl
@[go_sem] theorem T77 : mkT Try.prog (77 : Nat) = some ⟨.other, 1, 8, [.raw (.nilFunc)]⟩ := by kernel_rfl
@[go_sem] theorem T78 : mkT Try.prog (78 : Nat) = some ⟨.other, 1, 8, [.raw (.nilFunc)]⟩ := by kernel_rfl
@[go_sem] theorem T79 : mkT Try.prog (79 : Nat) = some ⟨.other, 1, 8, [.raw (.nilFunc)]⟩ := by kernel_rfl
@[go_sem] theorem T80 : mkT Try.prog (80 : Nat) = some ⟨.other, 1, 8, [.raw (.nilFunc)]⟩ := by kernel_rfl
@[go_sem] theorem T81 : mkT Try.prog (81 : Nat) = some ⟨(.struct [(0, 1, false), (1, 1, false)] (some [.i, .s])), 2, 24, [.i .i64 0, .s ⟨#[]⟩]⟩ := by kernel_rfl
@[go_sem] theorem T82 : mkT Try.prog (82 : Nat) = some ⟨(.struct [(0, 1, false), (1, 1, false)] (some [.i, .s])), 2, 24, [.i .i64 0, .s ⟨#[]⟩]⟩ := by kernel_rfl
@[go_sem] theorem T83 : mkT Try.prog (83 : Nat) = some ⟨.other, 1, 8, [.raw (.nilFunc)]⟩ := by kernel_rfl
@[go_sem] theorem T84 : mkT Try.prog (84 : Nat) = some ⟨(.struct [(0, 1, false), (1, 1, false)] (some [.i, .s])), 2, 24, [.i .i64 0, .s ⟨#[]⟩]⟩ := by kernel_rfl
@[go_sem] theorem T85 : mkT Try.prog (85 : Nat) = some ⟨.other, 1, 8, [.raw (.nilFunc)]⟩ := by kernel_rfl
@[go_sem] theorem T86 : mkT Try.prog (86 : Nat) = some ⟨.other, 1, 8, [.raw (.nilFunc)]⟩ := by kernel_rfl
@[go_sem] theorem T87 : mkT Try.prog (87 : Nat) = some ⟨.other, 1, 8, [.raw (.nilFunc)]⟩ := by kernel_rfl
@[go_sem] theorem T88 : mkT Try.prog (88 : Nat) = some ⟨.other, 1, 8, [.raw (.nilFunc)]⟩ := by kernel_rfl
@[go_sem] theorem T89 : mkT Try.prog (89 : Nat) = some ⟨.other, 1, 8, [.raw (.nilFunc)]⟩ := by kernel_rfl
@[go_sem] theorem T90 : mkT Try.prog (90 : Nat) = some ⟨.other, 1, 8, [.raw (.nilFunc)]⟩ := by kernel_rfl
@[go_sem] theorem T91 : mkT Try.prog (91 : Nat) = some ⟨.other, 1, 8, [.raw (.nilFunc)]⟩ := by kernel_rfl
@[go_sem] theorem T92 : mkT Try.prog (92 : Nat) = some ⟨.other, 1, 8, [.raw (.nilFunc)]⟩ := by kernel_rfl
@[go_sem] theorem T93 : mkT Try.prog (93 : Nat) = some ⟨.other, 1, 8, [.raw (.nilFunc)]⟩ := by kernel_rfl
@[go_sem] theorem T94 : mkT Try.prog (94 : Nat) = some ⟨.other, 1, 8, [.raw (.nilFunc)]⟩ := by kernel_rfl
@[go_sem] theorem T95 : mkT Try.prog (95 : Nat) = some ⟨(.array 5 3), 5, 40, [.i .i64 0, .i .i64 0, .i .i64 0, .i .i64 0, .i .i64 0]⟩ := by kernel_rfl
@[go_sem] theorem T96 : mkT Try.prog (96 : Nat) = some ⟨.other, 1, 8, [.raw (.nilFunc)]⟩ := by kernel_rfl
@[go_sem] theorem T97 : mkT Try.prog (97 : Nat) = some ⟨(.slice 5), 1, 24, [.sl true 0 []]⟩ := by kernel_rfl
@[go_sem] theorem T98 : mkT Try.prog (98 : Nat) = some ⟨(.int .u64), 1, 8, [.i .u64 0]⟩ := by kernel_rfl
@[go_sem] theorem T99 : mkT Try.prog (99 : Nat) = some ⟨.other, 1, 8, [.raw (.nilFunc)]⟩ := by kernel_rfl
@[go_sem] theorem T100 : mkT Try.prog (100 : Nat) = some ⟨(.int .u64), 1, 8, [.i .u64 0]⟩ := by kernel_rfl
@[go_sem] theorem T101 : mkT Try.prog (101 : Nat) = some ⟨.other, 1, 8, [.raw (.nilFunc)]⟩ := by kernel_rfl
@[go_sem] theorem T103 : mkT Try.prog (103 : Nat) = some ⟨.other, 1, 8, [.raw (.nilFunc)]⟩ := by kernel_rfl
@[go_sem] theorem T104 : mkT Try.prog (104 : Nat) = some ⟨.other, 1, 8, [.raw (.nilFunc)]⟩ := by kernel_rfl
@[go_sem] theorem T105 : mkT Try.prog (105 : Nat) = some ⟨.other, 1, 8, [.raw (.nilFunc)]⟩ := by kernel_rfl
@[go_sem] theorem T106 : mkT Try.prog (106 : Nat) = some ⟨.other, 1, 8, [.raw (.nilFunc)]⟩ := by kernel_rfl
@[go_sem] theorem T107 : mkT Try.prog (107 : Nat) = some ⟨.other, 1, 8, [.raw (.nilFunc)]⟩ := by kernel_rfl
@[go_sem] theorem T108 : mkT Try.prog (108 : Nat) = some ⟨.other, 1, 8, [.raw (.nilFunc)]⟩ := by kernel_rfl
@[go_sem] theorem T109 : mkT Try.prog (109 : Nat) = some ⟨.other, 1, 8, [.raw (.nilFunc)]⟩ := by kernel_rfl
@[go_sem] theorem T110 : mkT Try.prog (110 : Nat) = some ⟨(.slice 100), 1, 24, [.sl true 0 []]⟩ := by kernel_rfl
@[go_sem] theorem T111 : mkT Try.prog (111 : Nat) = some ⟨.other, 1, 8, [.raw (.nilFunc)]⟩ := by kernel_rfl
@[go_sem] theorem T112 : mkT Try.prog (112 : Nat) = some ⟨.other, 1, 8, [.raw (.nilFunc)]⟩ := by kernel_rfl
@[go_sem] theorem T113 : mkT Try.prog (113 : Nat) = some ⟨(.slice 62), 1, 24, [.sl true 0 []]⟩ := by kernel_rfl
@[go_sem] theorem T114 : mkT Try.prog (114 : Nat) = some ⟨.other, 1, 8, [.raw (.nilFunc)]⟩ := by kernel_rfl
@[go_sem] theorem T115 : mkT Try.prog (115 : Nat) = some ⟨.other, 1, 8, [.raw (.nilFunc)]⟩ := by kernel_rfl
@[go_sem] theorem T117 : mkT Try.prog (117 : Nat) = some ⟨.other, 1, 8, [.raw (.nilFunc)]⟩ := by kernel_rfl
@[go_sem] theorem T119 : mkT Try.prog (119 : Nat) = some ⟨.other, 1, 8, [.raw (.nilFunc)]⟩ := by kernel_rfl
@[go_sem] theorem T120 : mkT Try.prog (120 : Nat) = some ⟨.other, 1, 8, [.raw (.nilFunc)]⟩ := by kernel_rfl
@[go_sem] theorem T122 : mkT Try.prog (122 : Nat) = some ⟨.other, 1, 8, [.raw (.nilFunc)]⟩ := by kernel_rfl
@[go_sem] theorem T123 : mkT Try.prog (123 : Nat) = some ⟨.other, 1, 8, [.raw (.nilFunc)]⟩ := by kernel_rfl
@[go_sem] theorem T124 : mkT Try.prog (124 : Nat) = some ⟨.other, 1, 8, [.raw (.nilFunc)]⟩ := by kernel_rfl
@[go_sem] theorem T125 : mkT Try.prog (125 : Nat) = some ⟨.other, 1, 16, [.raw (.nilIface)]⟩ := by kernel_rfl
@[go_sem] theorem T126 : mkT Try.prog (126 : Nat) = some ⟨.other, 1, 16, [.raw (.nilIface)]⟩ := by kernel_rfl
@[go_sem] theorem T127 : mkT Try.prog (127 : Nat) = some ⟨.other, 1, 8, [.raw (.pointer none)]⟩ := by kernel_rfl
@[go_sem] theorem T128 : mkT Try.prog (128 : Nat) = some ⟨(.struct [(0, 1, false), (1, 1, false), (2, 1, false), (3, 1, false)] none), 4, 40, [.raw (.pointer none), .raw (.pointer none), .raw (.pointer none), .s ⟨#[]⟩]⟩ := by kernel_rfl
@[go_sem] theorem T129 : mkT Try.prog (129 : Nat) = some ⟨(.struct [(0, 1, false), (1, 1, false), (2, 1, false), (3, 1, false)] none), 4, 40, [.raw (.pointer none), .raw (.pointer none), .raw (.pointer none), .s ⟨#[]⟩]⟩ := by kernel_rfl
@[go_sem] theorem T130 : mkT Try.prog (130 : Nat) = some ⟨(.array 0 16), 0, 0, []⟩ := by kernel_rfl
@[go_sem] theorem T131 : mkT Try.prog (131 : Nat) = some ⟨(.struct [(0, 0, true)] none), 0, 0, []⟩ := by kernel_rfl
@[go_sem] theorem T132 : mkT Try.prog (132 : Nat) = some ⟨(.struct [(0, 0, true)] none), 0, 0, []⟩ := by kernel_rfl
@[go_sem] theorem T133 : mkT Try.prog (133 : Nat) = some ⟨(.int .u32), 1, 4, [.i .u32 0]⟩ := by kernel_rfl
@[go_sem] theorem T134 : mkT Try.prog (134 : Nat) = some ⟨(.int .u8), 1, 1, [.i .u8 0]⟩ := by kernel_rfl
@[go_sem] theorem T135 : mkT Try.prog (135 : Nat) = some ⟨(.int .u8), 1, 1, [.i .u8 0]⟩ := by kernel_rfl
@[go_sem] theorem T136 : mkT Try.prog (136 : Nat) = some ⟨.other, 1, 8, [.raw (.nilFunc)]⟩ := by kernel_rfl
@[go_sem] theorem T137 : mkT Try.prog (137 : Nat) = some ⟨.other, 1, 8, [.raw (.pointer none)]⟩ := by kernel_rfl
@[go_sem] theorem T138 : mkT Try.prog (138 : Nat) = some ⟨(.int .i32), 1, 4, [.i .i32 0]⟩ := by kernel_rfl
@[go_sem] theorem T139 : mkT Try.prog (139 : Nat) = some ⟨(.int .i32), 1, 4, [.i .i32 0]⟩ := by kernel_rfl
@[go_sem] theorem T140 : mkT Try.prog (140 : Nat) = some ⟨(.struct [(0, 1, false), (1, 1, false), (2, 1, false), (3, 1, false), (4, 1, false), (5, 1, false), (6, 1, false), (7, 1, false), (8, 1, false), (9, 1, false), (10, 1, false)] none), 11, 48, [.i .u64 0, .i .u64 0, .i .u32 0, .i .u8 0, .i .u8 0, .i .u8 0, .i .u8 0, .raw (.nilFunc), .raw (.pointer none), .i .i32 0, .i .i32 0]⟩ := by kernel_rfl
@[go_sem] theorem T141 : mkT Try.prog (141 : Nat) = some ⟨(.struct [(0, 1, false), (1, 1, false), (2, 1, false), (3, 1, false), (4, 1, false), (5, 1, false), (6, 1, false), (7, 1, false), (8, 1, false), (9, 1, false), (10, 1, false)] none), 11, 48, [.i .u64 0, .i .u64 0, .i .u32 0, .i .u8 0, .i .u8 0, .i .u8 0, .i .u8 0, .raw (.nilFunc), .raw (.pointer none), .i .i32 0, .i .i32 0]⟩ := by kernel_rfl
@[go_sem] theorem T142 : mkT Try.prog (142 : Nat) = some ⟨.other, 1, 8, [.raw (.nilFunc)]⟩ := by kernel_rfl
@[go_sem] theorem T143 : mkT Try.prog (143 : Nat) = some ⟨(.struct [(0, 1, false)] (some [.s])), 1, 16, [.s ⟨#[]⟩]⟩ := by kernel_rfl
@[go_sem] theorem T144 : mkT Try.prog (144 : Nat) = some ⟨(.struct [(0, 1, false)] (some [.s])), 1, 16, [.s ⟨#[]⟩]⟩ := by kernel_rfl
@[go_sem] theorem T145 : mkT Try.prog (145 : Nat) = some ⟨.other, 1, 8, [.raw (.pointer none)]⟩ := by kernel_rfl

def io : FuncId → Bool := fun g => g == 30 || g == 35 || g == 39 || g == 66 || g == 104 || g == 108 || g == 111
@[go_sem] theorem io0 : io (0 : Nat) = false := rfl
@[go_sem] theorem io1 : io (1 : Nat) = false := rfl
@[go_sem] theorem io2 : io (2 : Nat) = false := rfl
@[go_sem] theorem io3 : io (3 : Nat) = false := rfl
@[go_sem] theorem io4 : io (4 : Nat) = false := rfl
@[go_sem] theorem io5 : io (5 : Nat) = false := rfl
@[go_sem] theorem io6 : io (6 : Nat) = false := rfl
@[go_sem] theorem io7 : io (7 : Nat) = false := rfl
@[go_sem] theorem io8 : io (8 : Nat) = false := rfl
@[go_sem] theorem io9 : io (9 : Nat) = false := rfl
@[go_sem] theorem io10 : io (10 : Nat) = false := rfl
@[go_sem] theorem io11 : io (11 : Nat) = false := rfl
@[go_sem] theorem io12 : io (12 : Nat) = false := rfl
@[go_sem] theorem io13 : io (13 : Nat) = false := rfl
@[go_sem] theorem io14 : io (14 : Nat) = false := rfl
@[go_sem] theorem io15 : io (15 : Nat) = false := rfl
@[go_sem] theorem io16 : io (16 : Nat) = false := rfl
@[go_sem] theorem io17 : io (17 : Nat) = false := rfl
@[go_sem] theorem io18 : io (18 : Nat) = false := rfl
@[go_sem] theorem io19 : io (19 : Nat) = false := rfl
@[go_sem] theorem io20 : io (20 : Nat) = false := rfl
@[go_sem] theorem io21 : io (21 : Nat) = false := rfl
@[go_sem] theorem io22 : io (22 : Nat) = false := rfl
@[go_sem] theorem io23 : io (23 : Nat) = false := rfl
@[go_sem] theorem io24 : io (24 : Nat) = false := rfl
@[go_sem] theorem io25 : io (25 : Nat) = false := rfl
@[go_sem] theorem io26 : io (26 : Nat) = false := rfl
@[go_sem] theorem io27 : io (27 : Nat) = false := rfl
@[go_sem] theorem io28 : io (28 : Nat) = false := rfl
@[go_sem] theorem io29 : io (29 : Nat) = false := rfl
@[go_sem] theorem io30 : io (30 : Nat) = true := rfl
@[go_sem] theorem io31 : io (31 : Nat) = false := rfl
@[go_sem] theorem io32 : io (32 : Nat) = false := rfl
@[go_sem] theorem io33 : io (33 : Nat) = false := rfl
@[go_sem] theorem io34 : io (34 : Nat) = false := rfl
@[go_sem] theorem io35 : io (35 : Nat) = true := rfl
@[go_sem] theorem io36 : io (36 : Nat) = false := rfl
@[go_sem] theorem io37 : io (37 : Nat) = false := rfl
@[go_sem] theorem io38 : io (38 : Nat) = false := rfl
@[go_sem] theorem io39 : io (39 : Nat) = true := rfl
@[go_sem] theorem io40 : io (40 : Nat) = false := rfl
@[go_sem] theorem io41 : io (41 : Nat) = false := rfl
@[go_sem] theorem io42 : io (42 : Nat) = false := rfl
@[go_sem] theorem io43 : io (43 : Nat) = false := rfl
@[go_sem] theorem io44 : io (44 : Nat) = false := rfl
@[go_sem] theorem io45 : io (45 : Nat) = false := rfl
@[go_sem] theorem io46 : io (46 : Nat) = false := rfl
@[go_sem] theorem io47 : io (47 : Nat) = false := rfl
@[go_sem] theorem io48 : io (48 : Nat) = false := rfl
@[go_sem] theorem io49 : io (49 : Nat) = false := rfl
@[go_sem] theorem io50 : io (50 : Nat) = false := rfl
@[go_sem] theorem io51 : io (51 : Nat) = false := rfl
@[go_sem] theorem io52 : io (52 : Nat) = false := rfl
@[go_sem] theorem io53 : io (53 : Nat) = false := rfl
@[go_sem] theorem io54 : io (54 : Nat) = false := rfl
@[go_sem] theorem io55 : io (55 : Nat) = false := rfl
@[go_sem] theorem io56 : io (56 : Nat) = false := rfl
@[go_sem] theorem io57 : io (57 : Nat) = false := rfl
@[go_sem] theorem io58 : io (58 : Nat) = false := rfl
@[go_sem] theorem io59 : io (59 : Nat) = false := rfl
@[go_sem] theorem io60 : io (60 : Nat) = false := rfl
@[go_sem] theorem io61 : io (61 : Nat) = false := rfl
@[go_sem] theorem io62 : io (62 : Nat) = false := rfl
@[go_sem] theorem io63 : io (63 : Nat) = false := rfl
@[go_sem] theorem io64 : io (64 : Nat) = false := rfl
@[go_sem] theorem io65 : io (65 : Nat) = false := rfl
@[go_sem] theorem io66 : io (66 : Nat) = true := rfl
@[go_sem] theorem io67 : io (67 : Nat) = false := rfl
@[go_sem] theorem io68 : io (68 : Nat) = false := rfl
@[go_sem] theorem io69 : io (69 : Nat) = false := rfl
@[go_sem] theorem io70 : io (70 : Nat) = false := rfl
@[go_sem] theorem io71 : io (71 : Nat) = false := rfl
@[go_sem] theorem io72 : io (72 : Nat) = false := rfl
@[go_sem] theorem io73 : io (73 : Nat) = false := rfl
@[go_sem] theorem io74 : io (74 : Nat) = false := rfl
@[go_sem] theorem io75 : io (75 : Nat) = false := rfl
@[go_sem] theorem io76 : io (76 : Nat) = false := rfl
@[go_sem] theorem io77 : io (77 : Nat) = false := rfl
@[go_sem] theorem io78 : io (78 : Nat) = false := rfl
@[go_sem] theorem io79 : io (79 : Nat) = false := rfl
@[go_sem] theorem io80 : io (80 : Nat) = false := rfl
@[go_sem] theorem io81 : io (81 : Nat) = false := rfl
@[go_sem] theorem io82 : io (82 : Nat) = false := rfl
@[go_sem] theorem io83 : io (83 : Nat) = false := rfl
@[go_sem] theorem io84 : io (84 : Nat) = false := rfl
@[go_sem] theorem io85 : io (85 : Nat) = false := rfl
@[go_sem] theorem io86 : io (86 : Nat) = false := rfl
@[go_sem] theorem io87 : io (87 : Nat) = false := rfl
@[go_sem] theorem io88 : io (88 : Nat) = false := rfl
@[go_sem] theorem io89 : io (89 : Nat) = false := rfl
@[go_sem] theorem io90 : io (90 : Nat) = false := rfl
@[go_sem] theorem io91 : io (91 : Nat) = false := rfl
@[go_sem] theorem io92 : io (92 : Nat) = false := rfl
@[go_sem] theorem io93 : io (93 : Nat) = false := rfl
@[go_sem] theorem io94 : io (94 : Nat) = false := rfl
@[go_sem] theorem io95 : io (95 : Nat) = false := rfl
@[go_sem] theorem io96 : io (96 : Nat) = false := rfl
@[go_sem] theorem io97 : io (97 : Nat) = false := rfl
@[go_sem] theorem io98 : io (98 : Nat) = false := rfl
@[go_sem] theorem io99 : io (99 : Nat) = false := rfl
@[go_sem] theorem io100 : io (100 : Nat) = false := rfl
@[go_sem] theorem io101 : io (101 : Nat) = false := rfl
@[go_sem] theorem io102 : io (102 : Nat) = false := rfl
@[go_sem] theorem io103 : io (103 : Nat) = false := rfl
@[go_sem] theorem io104 : io (104 : Nat) = true := rfl
@[go_sem] theorem io105 : io (105 : Nat) = false := rfl
@[go_sem] theorem io106 : io (106 : Nat) = false := rfl
@[go_sem] theorem io107 : io (107 : Nat) = false := rfl
@[go_sem] theorem io108 : io (108 : Nat) = true := rfl
@[go_sem] theorem io109 : io (109 : Nat) = false := rfl
@[go_sem] theorem io110 : io (110 : Nat) = false := rfl
@[go_sem] theorem io111 : io (111 : Nat) = true := rfl
@[go_sem] theorem io112 : io (112 : Nat) = false := rfl
@[go_sem] theorem io113 : io (113 : Nat) = false := rfl
@[go_sem] theorem io114 : io (114 : Nat) = false := rfl
@[go_sem] theorem io115 : io (115 : Nat) = false := rfl
@[go_sem] theorem io116 : io (116 : Nat) = false := rfl
@[go_sem] theorem io117 : io (117 : Nat) = false := rfl
@[go_sem] theorem io118 : io (118 : Nat) = false := rfl
@[go_sem] theorem io119 : io (119 : Nat) = false := rfl
@[go_sem] theorem io120 : io (120 : Nat) = false := rfl
@[go_sem] theorem io121 : io (121 : Nat) = false := rfl
@[go_sem] theorem io122 : io (122 : Nat) = false := rfl
@[go_sem] theorem io123 : io (123 : Nat) = false := rfl
@[go_sem] theorem io124 : io (124 : Nat) = false := rfl
@[go_sem] theorem io125 : io (125 : Nat) = false := rfl
@[go_sem] theorem io126 : io (126 : Nat) = false := rfl
@[go_sem] theorem io127 : io (127 : Nat) = false := rfl
@[go_sem] theorem io128 : io (128 : Nat) = false := rfl
@[go_sem] theorem io129 : io (129 : Nat) = false := rfl
@[go_sem] theorem io130 : io (130 : Nat) = false := rfl
@[go_sem] theorem io131 : io (131 : Nat) = false := rfl
@[go_sem] theorem io132 : io (132 : Nat) = false := rfl

theorem nat_beq_self (n : Nat) : (n == n) = true := by simp
section
variable {k : IntKind}
/-- Numbers in a row. -/
def raws (k : IntKind) (xs : List Nat) : List AV := xs.map fun x : Nat => .i k (x : Int)
def lstV (k : IntKind) (xs : List Nat) : AV := .sl false xs.length (raws k xs)
def natV (n : Nat) : AV := lstV .u64 (dg W n)
def limV (n : Nat) : AV := lstV .i64 (dg H n)
variable {xs : List Nat} {S : Store} {d i n v : Nat}
@[go_sem high] theorem lstV_deep : deep S (d + 1) (lstV k xs) = some (lstV k xs) := rfl
@[go_sem high] theorem lstV_flat : flat (d + 1) (lstV k xs) = false := rfl
@[go_sem high] theorem lstV_refs : refs (d + 1) (lstV k xs) = [] := rfl
@[go_sem high] theorem lstV_okc : (lstV k xs).okc = true := rfl
@[go_sem high] theorem lstV_one : (lstV k xs).one = true := rfl
@[go_sem high] theorem lstV_cells : (lstV k xs).cells = [lstV k xs] := rfl
@[go_sem high] theorem lstV_nf : (lstV k xs).nf = lstV k xs := rfl
@[go_sem high] theorem natV_deep : deep S (d + 1) (natV n) = some (natV n) := rfl
@[go_sem high] theorem natV_flat : flat (d + 1) (natV n) = false := rfl
@[go_sem high] theorem natV_refs : refs (d + 1) (natV n) = [] := rfl
@[go_sem high] theorem natV_okc : (natV n).okc = true := rfl
@[go_sem high] theorem natV_one : (natV n).one = true := rfl
@[go_sem high] theorem natV_cells : (natV n).cells = [natV n] := rfl
@[go_sem high] theorem natV_nf : (natV n).nf = natV n := rfl
@[go_sem high] theorem limV_deep : deep S (d + 1) (limV n) = some (limV n) := rfl
@[go_sem high] theorem limV_flat : flat (d + 1) (limV n) = false := rfl
@[go_sem high] theorem limV_refs : refs (d + 1) (limV n) = [] := rfl
@[go_sem high] theorem limV_okc : (limV n).okc = true := rfl
@[go_sem high] theorem limV_one : (limV n).one = true := rfl
@[go_sem high] theorem limV_cells : (limV n).cells = [limV n] := rfl
@[go_sem high] theorem limV_nf : (limV n).nf = limV n := rfl

theorem lstV_eq {ys : List Nat} {n : Nat} (h : n = ys.length) : AV.sl false n (raws k ys) = lstV k ys := by subst h; rfl
@[go_sem] theorem raws_nil : raws k [] = [] := rfl
@[go_sem] theorem raws_len : (raws k xs).length = xs.length := by simp [raws]
@[go_sem] theorem raws_drop : (raws k xs).drop i = raws k (xs.drop i) := by simp [raws]
@[go_sem] theorem raws_take : (raws k xs).take i = raws k (xs.take i) := by simp [raws]
@[go_sem] theorem raws_set : (raws k xs).set i (.i k (v : Int)) = raws k (xs.set i v) := by simp [raws]
@[go_sem] theorem raws_append {ys : List Nat} : raws k xs ++ raws k ys = raws k (xs ++ ys) := by simp [raws]
@[go_sem] theorem raws_rep : (List.replicate n [AV.i k 0]).flatten = raws k (List.replicate n 0) := by
  induction n with
  | zero => rfl
  | succ n ih => simp [List.replicate_succ, raws] at ih ⊢
@[go_sem] theorem raws_closed : (raws k xs).all AV.closed = true := by simp [raws, AV.closed]
@[go_sem] theorem raws_one : (raws k xs).all AV.one = true := by simp [raws, AV.one]
@[go_sem] theorem raws_nf : (raws k xs).map AV.nf = raws k xs := by simp [raws, AV.nf]
theorem raws_concat : raws k xs ++ [.i k (v : Int)] = raws k (xs ++ [v]) := by simp [raws]
theorem raws_one' : [AV.i k (v : Int)] = raws k [v] := rfl
/-- A number in a row is read. -/
theorem raws_head (h : i < xs.length) : (raws k (xs.drop i)).head? = some (.i k ((xs.getD i 0 : Nat) : Int)) := by
  simp [raws, List.head?_drop, List.getElem?_eq_getElem h, List.getD_eq_getElem?_getD]
end
attribute [go_sem] Nat.mul_one Nat.zero_add Nat.add_zero Nat.sub_zero List.set_nil Int.toNat_natCast List.length_replicate List.length_set List.length_map Int.zero_sub

/-- Whole numbers that fit. -/
theorem wrap64 {n : Int} (h1 : -9223372036854775808 ≤ n) (h2 : n < 9223372036854775808) : IntKind.i64.wrap n = n := by
  simp only [IntKind.wrap, IntKind.bits, IntKind.signed, Bool.true_and]
  split
  · rename_i h
    have h := of_decide_eq_true h
    omega
  · rename_i h
    have h := of_decide_eq_false (Bool.not_eq_true _ ▸ h)
    omega
theorem wrapu64 {n : Int} (h1 : 0 ≤ n) (h2 : n < 18446744073709551616) : IntKind.u64.wrap n = n := by
  simp only [IntKind.wrap, IntKind.bits, IntKind.signed, Bool.false_and, Bool.false_eq_true, if_false]
  omega
theorem wrapu64_mod {n : Nat} : IntKind.u64.wrap (n : Int) = ((n % 18446744073709551616 : Nat) : Int) := by
  simp only [IntKind.wrap, IntKind.bits, IntKind.signed, Bool.false_and, Bool.false_eq_true, if_false]
  omega
theorem wrapu8_mod {n : Nat} : IntKind.u8.wrap (n : Int) = ((n % 256 : Nat) : Int) := by
  simp only [IntKind.wrap, IntKind.bits, IntKind.signed, Bool.false_and, Bool.false_eq_true, if_false]
  omega
/-- Sums and products of whole numbers that are not below 0. -/
theorem nadd {a b : Nat} : (a : Int) + (b : Int) = ((a + b : Nat) : Int) := rfl
theorem nadd1 {a b : Nat} : (a : Int) + (no_index (OfNat.ofNat b) : Int) = ((a + OfNat.ofNat b : Nat) : Int) := rfl
theorem nadd2 {a b : Nat} : (no_index (OfNat.ofNat a) : Int) + (b : Int) = ((OfNat.ofNat a + b : Nat) : Int) := rfl
theorem nmul {a b : Nat} : (a : Int) * (b : Int) = ((a * b : Nat) : Int) := rfl
theorem nmul1 {a b : Nat} : (a : Int) * (no_index (OfNat.ofNat b) : Int) = ((a * OfNat.ofNat b : Nat) : Int) := rfl
theorem nmul2 {a b : Nat} : (no_index (OfNat.ofNat a) : Int) * (b : Int) = ((OfNat.ofNat a * b : Nat) : Int) := rfl
theorem nsub {a b : Nat} (h : b ≤ a) : (a : Int) - (b : Int) = ((a - b : Nat) : Int) := by omega
theorem nsub1 {a b : Nat} (h : OfNat.ofNat b ≤ a) : (a : Int) - (no_index (OfNat.ofNat b) : Int) = ((a - OfNat.ofNat b : Nat) : Int) := by
  rw [Int.natCast_sub h]; rfl
theorem nsub2 {a b : Nat} (h : b ≤ OfNat.ofNat a) : (no_index (OfNat.ofNat a) : Int) - (b : Int) = ((OfNat.ofNat a - b : Nat) : Int) := by
  rw [Int.natCast_sub h]; rfl
theorem ndiv {a b : Nat} : Int.tdiv (a : Int) (b : Int) = ((a / b : Nat) : Int) := rfl
theorem ndiv1 {a b : Nat} : Int.tdiv (a : Int) (no_index (OfNat.ofNat b) : Int) = ((a / OfNat.ofNat b : Nat) : Int) := rfl
theorem nmod {a b : Nat} : Int.tmod (a : Int) (b : Int) = ((a % b : Nat) : Int) := rfl
theorem nmod1 {a b : Nat} : Int.tmod (a : Int) (no_index (OfNat.ofNat b) : Int) = ((a % OfNat.ofNat b : Nat) : Int) := rfl
theorem nemod {a b : Nat} : (a : Int) % (no_index (OfNat.ofNat b) : Int) = ((a % OfNat.ofNat b : Nat) : Int) := rfl
attribute [go_sem] nemod
theorem takeAll_drop {α : Type} {l : List α} {n i : Nat} (h : l.length - i ≤ n) : (l.drop i).take n = l.drop i := List.take_of_length_le (by rw [List.length_drop]; exact h)
theorem takeAll_concat {α : Type} {l : List α} {n : Nat} {v : α} (h : l.length + 1 ≤ n) : (l ++ [v]).take n = l ++ [v] := List.take_of_length_le (by simpa using h)
attribute [go_sem] takeAll_drop takeAll_concat
theorem nlt {a b : Nat} : decide ((a : Int) < (b : Int)) = decide (a < b) := by simp
theorem nlt1 {a b : Nat} : decide ((a : Int) < (no_index (OfNat.ofNat b) : Int)) = decide (a < OfNat.ofNat b) := decide_eq_decide.2 Int.ofNat_lt
theorem nlt2 {a b : Nat} : decide ((no_index (OfNat.ofNat a) : Int) < (b : Int)) = decide (OfNat.ofNat a < b) := decide_eq_decide.2 Int.ofNat_lt
theorem nle {a b : Nat} : decide ((a : Int) ≤ (b : Int)) = decide (a ≤ b) := by simp
theorem nle1 {a b : Nat} : decide ((a : Int) ≤ (no_index (OfNat.ofNat b) : Int)) = decide (a ≤ OfNat.ofNat b) := decide_eq_decide.2 Int.ofNat_le
theorem nle2 {a b : Nat} : decide ((no_index (OfNat.ofNat a) : Int) ≤ (b : Int)) = decide (OfNat.ofNat a ≤ b) := decide_eq_decide.2 Int.ofNat_le
theorem neq {a b : Nat} : decide ((a : Int) = (b : Int)) = decide (a = b) := decide_eq_decide.2 Int.ofNat_inj
theorem neq1 {a b : Nat} : decide ((a : Int) = (no_index (OfNat.ofNat b) : Int)) = decide (a = OfNat.ofNat b) := decide_eq_decide.2 Int.ofNat_inj
theorem beqT {b : Bool} : (b == true) = b := by cases b <;> rfl
theorem beqF {b : Bool} : (b == false) = !b := by cases b <;> rfl
theorem decT {p : Prop} [Decidable p] (h : p) : decide p = true := decide_eq_true h
theorem decF {p : Prop} [Decidable p] (h : ¬p) : decide p = false := decide_eq_false h
theorem ifT {α : Sort _} {p : Prop} [Decidable p] {a b : α} (h : p) : (if p then a else b) = a := if_pos h
theorem ifF {α : Sort _} {p : Prop} [Decidable p] {a b : α} (h : ¬p) : (if p then a else b) = b := if_neg h
theorem take_take_le {α : Type} {l : List α} {i j : Nat} (h : i ≤ j) : (l.take j).take i = l.take i := by rw [List.take_take, Nat.min_eq_left h]
theorem getD_take {l : List Nat} {i j : Nat} (h : i < j) : (l.take j).getD i 0 = l.getD i 0 := by
  rw [List.getD_eq_getElem?_getD, List.getD_eq_getElem?_getD, List.getElem?_take_of_lt h]
theorem takeAll {α : Type} {l : List α} {n : Nat} (h : l.length ≤ n) : l.take n = l := List.take_of_length_le h
theorem takeAll_set {α : Type} {l : List α} {n i : Nat} {v : α} (h : l.length ≤ n) : (l.set i v).take n = l.set i v := List.take_of_length_le (by simpa using h)
attribute [go_sem] takeAll takeAll_set
attribute [go_sem] List.length_take List.length_drop List.length_append take_take_le getD_take
/-- A byte of a text. -/
def byteAt (s : ByteArray) (n : Nat) : Nat := (s[n]?.getD 0).toNat
theorem byteAt_lt {s : ByteArray} {n : Nat} : byteAt s n < 256 := (s[n]?.getD 0).toNat_lt
theorem byteO_some {s : ByteArray} {n : Nat} (h : n < s.size) : byteO s n = some (.i .u8 (byteAt s n : Nat)) := by
  have : s[n]? = some s[n] := getElem?_pos s n h
  simp [byteO, byteAt, this]
attribute [go_sem] byteO_some
theorem minL {a b : Nat} (h : a ≤ b) : min a b = a := Nat.min_eq_left h
theorem minR {a b : Nat} (h : b ≤ a) : min a b = b := Nat.min_eq_right h
theorem nfdiv {a n : Nat} : Int.fdiv (a : Int) (2 ^ n) = ((a / 2 ^ n : Nat) : Int) := by
  rw [Int.fdiv_eq_ediv_of_nonneg _ (Int.pow_nonneg (by decide)), show ((2 : Int) ^ n) = ((2 ^ n : Nat) : Int) from (Int.natCast_pow 2 n).symm]
  exact (Int.natCast_ediv a (2 ^ n)).symm
theorem nshl {a n : Nat} : (a : Int) * 2 ^ n = ((a * 2 ^ n : Nat) : Int) := by
  rw [Int.natCast_mul, Int.natCast_pow]; rfl
theorem and_u64 {a b : Nat} (ha : a < 18446744073709551616) (hb : b < 18446744073709551616) : abinI .and .u64 (a : Int) (b : Int) = some (.i .u64 ((a &&& b : Nat) : Int)) := by
  have e : (BitVec.ofInt 64 (a : Int) &&& BitVec.ofInt 64 (b : Int)).toNat = a &&& b := by
    rw [BitVec.toNat_and, BitVec.ofInt_natCast, BitVec.ofInt_natCast, BitVec.toNat_ofNat, BitVec.toNat_ofNat, Nat.mod_eq_of_lt ha, Nat.mod_eq_of_lt hb]
  show some (AV.i .u64 (IntKind.u64.wrap ((BitVec.ofInt 64 (a : Int) &&& BitVec.ofInt 64 (b : Int)).toNat : Int))) = _
  rw [e, wrapu64 (by omega) (by have := Nat.and_le_left (n := a) (m := b); omega)]
theorem and_u64' {a b : Nat} (ha : a < 18446744073709551616) (hb : OfNat.ofNat b < 18446744073709551616) : abinI .and .u64 (a : Int) (no_index (OfNat.ofNat b) : Int) = some (.i .u64 ((a &&& OfNat.ofNat b : Nat) : Int)) := and_u64 ha hb
theorem or_u64 {a b : Nat} (ha : a < 18446744073709551616) (hb : b < 18446744073709551616) : abinI .or .u64 (a : Int) (b : Int) = some (.i .u64 ((a ||| b : Nat) : Int)) := by
  have e : (BitVec.ofInt 64 (a : Int) ||| BitVec.ofInt 64 (b : Int)).toNat = a ||| b := by
    rw [BitVec.toNat_or, BitVec.ofInt_natCast, BitVec.ofInt_natCast, BitVec.toNat_ofNat, BitVec.toNat_ofNat, Nat.mod_eq_of_lt ha, Nat.mod_eq_of_lt hb]
  show some (AV.i .u64 (IntKind.u64.wrap ((BitVec.ofInt 64 (a : Int) ||| BitVec.ofInt 64 (b : Int)).toNat : Int))) = _
  rw [e, wrapu64 (by omega) (by have := Nat.or_lt_two_pow (n := 64) (x := a) (y := b) (by omega) (by omega); omega)]
theorem or_i64 {a b : Nat} (ha : a < 9223372036854775808) (hb : b < 9223372036854775808) : abinI .or .i64 (a : Int) (b : Int) = some (.i .i64 ((a ||| b : Nat) : Int)) := by
  have e : (BitVec.ofInt 64 (a : Int) ||| BitVec.ofInt 64 (b : Int)).toNat = a ||| b := by
    rw [BitVec.toNat_or, BitVec.ofInt_natCast, BitVec.ofInt_natCast, BitVec.toNat_ofNat, BitVec.toNat_ofNat, Nat.mod_eq_of_lt (by omega), Nat.mod_eq_of_lt (by omega)]
  show some (AV.i .i64 (IntKind.i64.wrap ((BitVec.ofInt 64 (a : Int) ||| BitVec.ofInt 64 (b : Int)).toNat : Int))) = _
  rw [e, wrap64 (by omega) (by have := Nat.or_lt_two_pow (n := 63) (x := a) (y := b) (by omega) (by omega); omega)]
theorem and_i64 {a b : Nat} (ha : a < 9223372036854775808) (hb : b < 9223372036854775808) : abinI .and .i64 (a : Int) (b : Int) = some (.i .i64 ((a &&& b : Nat) : Int)) := by
  have e : (BitVec.ofInt 64 (a : Int) &&& BitVec.ofInt 64 (b : Int)).toNat = a &&& b := by
    rw [BitVec.toNat_and, BitVec.ofInt_natCast, BitVec.ofInt_natCast, BitVec.toNat_ofNat, BitVec.toNat_ofNat, Nat.mod_eq_of_lt (by omega), Nat.mod_eq_of_lt (by omega)]
  show some (AV.i .i64 (IntKind.i64.wrap ((BitVec.ofInt 64 (a : Int) &&& BitVec.ofInt 64 (b : Int)).toNat : Int))) = _
  rw [e, wrap64 (by omega) (by have := Nat.and_le_left (n := a) (m := b); omega)]
theorem and_i64' {a b : Nat} (ha : a < 9223372036854775808) (hb : OfNat.ofNat b < 9223372036854775808) : abinI .and .i64 (a : Int) (no_index (OfNat.ofNat b) : Int) = some (.i .i64 ((a &&& OfNat.ofNat b : Nat) : Int)) := and_i64 ha hb
/-- 24 bits of a number that may be below 0. -/
theorem and_i64_24 {n : Int} : abinI .and .i64 n 16777215 = some (.i .i64 (n % 16777216)) := by
  have e : ((BitVec.ofInt 64 n &&& BitVec.ofInt 64 16777215).toNat : Int) = n % 16777216 := by
    rw [BitVec.toNat_and, show (BitVec.ofInt 64 16777215).toNat = 2 ^ 24 - 1 from by decide, Nat.and_two_pow_sub_one_eq_mod, BitVec.toNat_ofInt]
    omega
  show some (AV.i .i64 (IntKind.i64.wrap ((BitVec.ofInt 64 n &&& BitVec.ofInt 64 16777215).toNat : Int))) = _
  rw [e, wrap64 (by omega) (by omega)]
attribute [go_sem high] and_u64 and_u64' or_u64 or_i64 and_i64 and_i64' and_i64_24
theorem and32 {a : Nat} : a &&& 4294967295 = a % 4294967296 := Nat.and_two_pow_sub_one_eq_mod a 32
theorem and24 {a : Nat} : a &&& 16777215 = a % 16777216 := Nat.and_two_pow_sub_one_eq_mod a 24
theorem and1 {a : Nat} : a &&& 1 = a % 2 := Nat.and_two_pow_sub_one_eq_mod a 1
theorem pow32 : (2 : Nat) ^ 32 = 4294967296 := by decide
theorem pow24 : (2 : Nat) ^ 24 = 16777216 := by decide
theorem pow16 : (2 : Nat) ^ 16 = 65536 := by decide
theorem pow8 : (2 : Nat) ^ 8 = 256 := by decide
theorem bits64 : IntKind.u64.bits = 64 := rfl
theorem bitsi64 : IntKind.i64.bits = 64 := rfl
theorem bits8 : IntKind.u8.bits = 8 := rfl
attribute [go_sem low] wrapu64_mod wrapu8_mod
attribute [go_sem] minL minR nfdiv nshl and32 and24 and1 pow32 pow24 pow16 pow8 bits64 bitsi64 bits8
theorem toNat_lit {n : Nat} : Int.toNat (no_index (OfNat.ofNat n)) = OfNat.ofNat n := rfl
attribute [go_sem] eq_self decide_true decide_false not_true_eq_false not_false_eq_true toNat_lit raws_concat wrap64 wrapu64 nadd nadd1 nadd2 nmul nmul1 nmul2 nsub nsub1 nsub2 ndiv ndiv1 nmod nmod1 nlt nlt1 nlt2 nle nle1 nle2 neq neq1 raws_head List.getElem?_toArray beqT beqF decT decF ifT ifF
@[go_sem] theorem toBytes_raws (xs : List Nat) : toBytes (raws .u8 xs) = some (xs.map UInt8.ofNat) := by
  induction xs with
  | nil => rfl
  | cons x xs ih =>
    show (match toBytes (raws .u8 xs) with | some l => some (UInt8.ofNat x :: l) | none => none) = _
    rw [ih]; rfl
@[go_sem] theorem getD_dead {cs : Option (List AV)} {n i : Nat} (h : n = i) : (List.replicate n none ++ [cs] : Store).getD i none = cs := by
  subst h; rw [List.getD_eq_getElem?_getD, List.getElem?_append_right (by simp)]; simp
@[go_sem] theorem set_dead {cs : Option (List AV)} {n i : Nat} (h : n = i) : (List.replicate n none ++ [cs] : Store).set i none = List.replicate (n + 1) none := by
  subst h; rw [List.set_append_right _ _ (by simp)]; simp [List.replicate_succ']
/-- What has been appended to. -/
def Buf (k : IntKind) (xs : List Nat) (v : AV) (S : Store) : Prop :=
  (xs = [] ∧ v = .sl true 0 [] ∧ S = []) ∨ ∃ j, xs.length = j + 1 ∧ v = .ref j 1 0 (j + 1) ∧ S = List.replicate j none ++ [some (raws k xs)]
end Go.Proofs.YtggojahlhpijeaaT
