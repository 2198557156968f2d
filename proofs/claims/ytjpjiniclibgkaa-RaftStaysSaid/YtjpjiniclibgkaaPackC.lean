/- The types that the raft statements' code meets, row by row. Then: The plain side of the raft statements: nodes, logs, messages; how they lie in memory. What the small functions of raft and of its document do: Valid, Last, TermAt, Clone. TermAt, of raft and of its document. Copies of logs, and how a turn begins. GoodLog, of raft and of its document. GoodLog of the document, Good and Sound. Good, of raft and of its document. Good of the document. Sound, of raft and of its document. Turns: what a node under way is; say and follow. What a majority has: commit. A node is sent what it lacks: feed. All the others are fed. An entry is laid behind a leader's log. The votes are counted. -/
import Derived.Test.YtjpjiniclibgkaaProg
import Derived.Test.YtjpjiniclibgkaaPackB
namespace Go.Proofs.Ytjpjiniclibgkaa.Sx
open Go
def fs24 : Array Field := #[⟨ "Term", 3, 0, false, "", "", 0⟩, ⟨ "Vote", 3, 1, false, "", "", 8⟩, ⟨ "Base", 3, 2, false, "", "", 16⟩, ⟨ "BaseTerm", 3, 3, false, "", "", 24⟩, ⟨ "Book", 9, 4, false, "", "", 32⟩, ⟨ "Items", 22, 5, false, "", "", 48⟩]
def fs27 : Array Field := #[⟨ "Me", 3, 0, false, "", "", 0⟩, ⟨ "Size", 3, 1, false, "", "", 8⟩, ⟨ "Log", 24, 2, false, "", "", 16⟩, ⟨ "Role", 3, 8, false, "", "", 88⟩, ⟨ "Lead", 3, 9, false, "", "", 96⟩, ⟨ "Commit", 3, 10, false, "", "", 104⟩, ⟨ "Votes", 3, 11, false, "", "", 112⟩, ⟨ "Next", 25, 12, false, "", "", 120⟩, ⟨ "Match", 25, 19, false, "", "", 176⟩]
def fs29 : Array Field := #[⟨ "From", 3, 0, false, "", "", 0⟩, ⟨ "To", 3, 1, false, "", "", 8⟩, ⟨ "Kind", 3, 2, false, "", "", 16⟩, ⟨ "Term", 3, 3, false, "", "", 24⟩, ⟨ "Last", 3, 4, false, "", "", 32⟩, ⟨ "LastTerm", 3, 5, false, "", "", 40⟩, ⟨ "Commit", 3, 6, false, "", "", 48⟩, ⟨ "Yes", 4, 7, false, "", "", 56⟩, ⟨ "Items", 22, 8, false, "", "", 64⟩, ⟨ "Book", 9, 9, false, "", "", 88⟩]
def fs42 : Array Field := #[⟨ "Kind", 3, 0, false, "", "", 0⟩, ⟨ "Version", 3, 1, false, "", "", 8⟩, ⟨ "Client", 3, 2, false, "", "", 16⟩, ⟨ "Seq", 3, 3, false, "", "", 24⟩, ⟨ "Data", 9, 4, false, "", "", 32⟩]
def fs44 : Array Field := #[⟨ "Term", 3, 0, false, "", "", 0⟩, ⟨ "Entry", 42, 1, false, "", "", 8⟩]
def fs78 : Array Field := #[⟨ "Node", 27, 0, true, "", "", 0⟩, ⟨ "out", 32, 26, false, "", "quern/raft", 232⟩]
def fs85 : Array Field := #[⟨ "N", 27, 0, false, "", "", 0⟩, ⟨ "Out", 32, 26, false, "", "", 232⟩]
def fs68 : Array Field := #[⟨ "nodes", 51, 0, false, "", "quern/quernlaw20", 0⟩, ⟨ "under", 32, 1, false, "", "quern/quernlaw20", 24⟩, ⟨ "terms", 66, 2, false, "", "quern/quernlaw20", 48⟩, ⟨ "leads", 66, 3, false, "", "quern/quernlaw20", 72⟩, ⟨ "sure", 22, 4, false, "", "quern/quernlaw20", 96⟩, ⟨ "since", 66, 5, false, "", "quern/quernlaw20", 120⟩, ⟨ "count", 3, 6, false, "", "quern/quernlaw20", 144⟩]
def fs70 : Array Field := #[⟨ "Kind", 3, 0, false, "", "", 0⟩, ⟨ "Who", 3, 1, false, "", "", 8⟩, ⟨ "I", 3, 2, false, "", "", 16⟩]
noncomputable def T1 : Tbl := [(3, ⟨.int .i64, 1, 8, .i .i64 0, false⟩),
  (4, ⟨.bool, 1, 1, .b false, false⟩),
  (9, ⟨.string, 1, 16, .s ByteArray.empty, false⟩),
  (33, ⟨.int .i64, 1, 8, .i .i64 0, false⟩),
  (86, ⟨.int .u64, 1, 8, .i .u64 0, false⟩),
  (89, ⟨.int .u64, 1, 8, .i .u64 0, false⟩),
  (99, ⟨.int .u32, 1, 4, .i .u32 0, false⟩),
  (22, ⟨.slice 44, 1, 24, .sl none 0 0, false⟩),
  (25, ⟨.array 7 3, 7, 56, .g [.gi 7 .i64 fun _ => 0], true⟩),
  (32, ⟨.slice 29, 1, 24, .sl none 0 0, false⟩),
  (50, ⟨.slice 32, 1, 24, .sl none 0 0, false⟩),
  (51, ⟨.slice 27, 1, 24, .sl none 0 0, false⟩),
  (64, ⟨.slice 70, 1, 24, .sl none 0 0, false⟩),
  (66, ⟨.slice 3, 1, 24, .sl none 0 0, false⟩),
  (74, ⟨.slice 22, 1, 24, .sl none 0 0, false⟩),
  (65, ⟨.pointer 68, 1, 8, .np, false⟩),
  (75, ⟨.pointer 78, 1, 8, .np, false⟩),
  (82, ⟨.pointer 85, 1, 8, .np, false⟩),
  (24, ⟨.struct fs24, 6, 72, .g [.i .i64 0, .i .i64 0, .i .i64 0, .i .i64 0, .s ByteArray.empty, .sl none 0 0], false⟩),
  (27, ⟨.struct fs27, 26, 232, .g [.i .i64 0, .i .i64 0, .i .i64 0, .i .i64 0, .i .i64 0, .i .i64 0, .s ByteArray.empty, .sl none 0 0, .i .i64 0, .i .i64 0, .i .i64 0, .i .i64 0, .gi 7 .i64 fun _ => 0, .gi 7 .i64 fun _ => 0], false⟩),
  (29, ⟨.struct fs29, 10, 104, .g [.i .i64 0, .i .i64 0, .i .i64 0, .i .i64 0, .i .i64 0, .i .i64 0, .i .i64 0, .b false, .sl none 0 0, .s ByteArray.empty], false⟩),
  (42, ⟨.struct fs42, 5, 48, .g [.i .i64 0, .i .i64 0, .i .i64 0, .i .i64 0, .s ByteArray.empty], true⟩),
  (44, ⟨.struct fs44, 6, 56, .g [.i .i64 0, .i .i64 0, .i .i64 0, .i .i64 0, .i .i64 0, .s ByteArray.empty], true⟩),
  (78, ⟨.struct fs78, 27, 256, .g [.i .i64 0, .i .i64 0, .i .i64 0, .i .i64 0, .i .i64 0, .i .i64 0, .s ByteArray.empty, .sl none 0 0, .i .i64 0, .i .i64 0, .i .i64 0, .i .i64 0, .gi 7 .i64 fun _ => 0, .gi 7 .i64 fun _ => 0, .sl none 0 0], false⟩),
  (85, ⟨.struct fs85, 27, 256, .g [.i .i64 0, .i .i64 0, .i .i64 0, .i .i64 0, .i .i64 0, .i .i64 0, .s ByteArray.empty, .sl none 0 0, .i .i64 0, .i .i64 0, .i .i64 0, .i .i64 0, .gi 7 .i64 fun _ => 0, .gi 7 .i64 fun _ => 0, .sl none 0 0], false⟩),
  (68, ⟨.struct fs68, 7, 152, .g [.sl none 0 0, .sl none 0 0, .sl none 0 0, .sl none 0 0, .sl none 0 0, .sl none 0 0, .i .i64 0], false⟩),
  (70, ⟨.struct fs70, 3, 24, .g [.i .i64 0, .i .i64 0, .i .i64 0], false⟩)]
theorem T1_ok : TOk Try.prog T1 := TOk.of (by
  intro p hp
  simp only [T1, List.mem_cons, List.not_mem_nil, or_false] at hp
  rcases hp with rfl | rfl | rfl | rfl | rfl | rfl | rfl | rfl | rfl | rfl | rfl | rfl | rfl | rfl | rfl | rfl | rfl | rfl | rfl | rfl | rfl | rfl | rfl | rfl | rfl | rfl | rfl
  all_goals exact ⟨by kernel_rfl, rfl, by kernel_rfl, rfl, by kernel_rfl, by first | (intro h; cases h; done) | exact fun _ => ⟨by kernel_rfl, by kernel_rfl, by kernel_rfl⟩⟩)
/-! ### the orders in which regions in no order are run -/
def sc3_7 : List (Nat × Bool) := [(0, false), (1, false), (2, true), (3, false), (4, false), (5, false), (6, true), (7, false), (8, false), (9, false), (10, false), (11, false), (12, false), (13, false), (14, false), (16, true), (15, true), (17, true), (18, false), (19, false), (20, false), (21, false), (22, false), (24, true), (25, true), (23, true), (26, false), (27, false), (28, false), (29, false)]
def sc4_18 : List (Nat × Bool) := [(0, false), (1, false), (2, false), (3, false), (4, false), (5, false), (6, false), (7, false), (8, false), (9, false), (10, false), (11, false), (12, false), (13, false), (14, false), (15, false), (16, false), (17, false), (18, false), (19, false), (20, false), (21, false), (22, false), (23, false), (24, false), (25, false), (26, false), (27, false), (28, false), (29, false)]
def sc5_13 : List (Nat × Bool) := [(0, false), (1, false), (2, false), (3, false), (4, false), (5, false), (6, false), (7, false), (8, false), (9, false), (10, false), (11, false), (12, false), (13, false), (14, false), (15, false), (16, false), (17, false), (18, false), (19, false), (20, false), (21, false), (22, false), (23, false), (24, false)]
def sc6_31 : List (Nat × Bool) := [(0, false), (1, false), (2, false), (3, false), (4, false), (5, false), (6, false), (7, false), (8, false), (9, false), (10, false), (11, false), (12, false), (13, false), (14, false), (15, false), (16, false), (17, false), (18, false), (19, false), (20, false), (21, false), (22, false), (23, false), (24, false), (25, false), (26, false), (27, false), (28, false), (29, false), (30, false), (31, false), (32, false), (33, false), (34, false), (35, false), (36, false), (37, false)]
def sc7_23 : List (Nat × Bool) := [(0, false), (1, false), (2, true), (3, false), (4, false), (5, false), (6, false), (7, false), (8, false), (9, false), (10, false), (11, false), (12, false), (13, false), (15, false), (16, true), (17, false), (18, true), (14, true), (19, false), (20, false), (21, false)]
def sc8_13 : List (Nat × Bool) := [(0, false), (1, false), (2, false), (3, false), (4, true), (5, false), (6, true), (7, false), (8, false), (9, false), (10, false)]
def sc9_12 : List (Nat × Bool) := [(0, false), (1, false), (2, false), (3, false), (4, true), (5, false), (6, true), (7, false), (8, false), (9, false), (10, false)]
def sc9_33 : List (Nat × Bool) := [(0, false), (1, false), (2, false), (3, false), (4, false), (5, false), (6, false), (7, false)]
def sc9_52 : List (Nat × Bool) := [(0, false), (1, false), (2, false), (3, false), (4, false), (5, false), (6, false), (7, false), (8, false), (9, false), (10, false), (11, false), (12, false), (13, false), (14, false), (15, false), (16, false), (17, false), (18, false), (19, false), (20, false), (21, false), (22, false), (23, false), (24, false)]
def sc10_8 : List (Nat × Bool) := [(0, false), (1, false), (2, false), (3, false), (4, true), (5, false), (6, false), (7, true), (8, true), (9, true), (10, false), (11, false)]
def sc10_11 : List (Nat × Bool) := [(0, false), (1, false), (2, false), (3, false), (4, true), (5, false), (6, false), (7, true), (8, true), (9, true), (10, false), (11, false)]
def sc10_14 : List (Nat × Bool) := [(0, false), (1, false), (2, false), (3, false), (4, false), (5, false), (6, false), (7, false), (8, false), (9, false), (10, false)]
def sc10_17 : List (Nat × Bool) := [(0, false), (1, false), (2, false), (3, false), (4, true), (5, false), (6, false), (7, true), (8, true), (9, true), (10, false)]
def sc12_4 : List (Nat × Bool) := [(0, false), (1, false), (2, false), (3, false), (4, false), (5, false), (6, false), (7, false), (8, false)]
def sc12_19 : List (Nat × Bool) := [(0, false), (1, false), (2, false), (3, false), (4, false), (5, false), (6, false), (7, false), (8, false), (9, false), (10, false), (11, false), (12, false), (13, false), (14, false), (15, false), (16, false), (17, false), (18, false), (19, false), (20, false)]
def sc12_20 : List (Nat × Bool) := [(0, false), (1, false), (2, false), (3, false), (4, false), (5, false), (6, false), (7, false), (8, false), (9, false), (10, false), (11, false), (12, false)]
def sc12_7 : List (Nat × Bool) := [(0, false), (1, false), (2, false), (3, false), (4, false), (5, false), (6, false), (7, false), (8, false), (9, false)]
def sc12_9 : List (Nat × Bool) := [(0, false), (1, false), (2, false), (3, false), (4, false), (5, false), (6, false), (7, true), (8, true), (9, false), (10, false)]
def sc12_24 : List (Nat × Bool) := [(0, false), (1, false), (2, false), (3, false), (4, false), (5, false), (6, false), (7, true), (8, true), (9, false), (10, false)]
def sc13_6 : List (Nat × Bool) := [(0, false), (1, false), (2, false), (3, false), (4, false), (5, false), (6, false), (7, false), (8, false), (9, false)]
def sc13_11 : List (Nat × Bool) := [(0, false), (1, false), (2, false), (3, false), (4, false), (5, false), (6, false), (7, false), (8, false), (9, false), (10, false), (11, false), (12, false), (13, false), (14, false), (15, false), (16, false), (17, false), (18, false), (19, false), (20, false), (21, false), (22, false), (23, false), (24, false)]
def sc13_17 : List (Nat × Bool) := [(0, false), (1, false), (2, false), (3, false), (4, false), (5, false), (6, false), (7, false), (8, false), (9, false), (10, false), (11, false), (12, false), (13, false), (14, false)]
def sc13_26 : List (Nat × Bool) := [(0, false), (1, false), (2, false), (3, false), (4, false), (5, false), (6, false), (7, true), (8, true), (9, false), (10, false)]
def sc13_33 : List (Nat × Bool) := [(0, false), (1, false), (2, false), (3, false), (4, false), (5, false), (6, false), (7, true), (8, true), (9, false), (10, false)]
def sc15_6 : List (Nat × Bool) := [(0, false), (1, false), (2, false), (3, false), (4, false), (5, false), (6, false), (7, false), (8, false), (9, false)]
def sc16_4 : List (Nat × Bool) := [(0, false), (1, false), (2, false), (3, false), (4, false), (5, false), (6, false), (7, false), (8, false), (9, false), (10, false), (11, false), (12, false), (13, false), (14, false), (15, false), (16, false), (17, false), (18, false), (19, false), (20, false), (21, false), (22, false), (23, false), (24, false), (25, false), (26, false), (27, false), (28, false), (29, false), (30, false), (31, false), (32, false), (33, false), (34, false), (35, false), (36, false), (37, false), (38, false), (39, false), (40, false), (41, false), (42, false), (43, false), (44, false), (45, false), (46, false)]
def sc23_6 : List (Nat × Bool) := [(0, false), (1, false), (2, false), (3, false), (4, false), (5, false), (6, false), (7, true), (8, true), (9, false), (10, false)]
def sc24_6 : List (Nat × Bool) := [(0, false), (1, false), (2, false), (3, false), (4, false), (5, false), (6, false), (7, false), (8, false)]
def sc25_6 : List (Nat × Bool) := [(0, false), (1, false), (2, false), (3, false), (4, false), (5, false), (6, false), (7, true), (8, true), (9, false), (10, false)]
def sc26_6 : List (Nat × Bool) := [(0, false), (1, false), (2, false), (3, false), (4, false), (5, false), (6, false), (7, false), (8, false)]
def sc26_7 : List (Nat × Bool) := [(0, false), (1, true), (2, true), (3, false), (4, false), (5, false), (6, false), (7, false), (8, false), (9, false), (10, false), (11, false), (12, false), (13, true), (14, false), (15, false), (16, false), (17, true), (18, false), (19, false), (20, false), (21, false), (22, true), (23, false), (24, false), (25, false), (26, false)]
def sc26_11 : List (Nat × Bool) := [(0, false), (1, false), (2, false), (3, false), (4, true), (5, false), (6, false), (7, true), (8, true), (9, false), (10, false)]
def sc27_10 : List (Nat × Bool) := [(0, false), (1, false), (2, false), (3, false), (4, false), (5, false), (6, false), (7, false), (8, true), (9, true), (10, false), (11, false), (12, false)]
def sc28_17 : List (Nat × Bool) := [(0, false), (1, false), (2, false), (3, false), (4, false), (5, false), (6, false), (7, true), (8, true), (9, false), (10, false)]
def sc29_10 : List (Nat × Bool) := [(0, false), (1, false), (2, false), (3, false), (4, false), (5, false), (6, false), (7, false), (8, true), (9, true), (10, false), (11, false), (12, false)]
def sc30_5 : List (Nat × Bool) := [(0, false), (1, false), (2, false), (3, false), (4, false), (5, false), (6, false), (7, false), (8, false), (9, false), (10, false), (11, false), (12, false), (13, false), (14, false), (15, false), (16, false), (17, false), (18, false), (19, false), (20, false)]
def sc31_5 : List (Nat × Bool) := [(0, false), (1, false), (2, false), (3, false), (4, false), (5, false), (6, false), (7, false), (8, false), (9, false), (10, false), (11, false), (12, false), (13, false), (14, false), (15, false), (16, false), (17, false)]
def sc32_3 : List (Nat × Bool) := [(0, false), (1, false), (2, false), (4, false), (5, true), (3, true), (6, false), (7, false), (8, false)]
def sc33_3 : List (Nat × Bool) := [(0, false), (1, false), (2, false), (4, false), (5, true), (3, true), (6, false), (7, false), (8, false)]
def sc36_3 : List (Nat × Bool) := [(0, false), (1, false), (2, false), (3, false), (4, false), (5, false), (6, false), (7, false), (8, false), (9, false), (10, false), (11, false), (12, false)]
def sc36_4 : List (Nat × Bool) := [(0, false), (1, false), (2, false), (3, false), (4, false), (5, false)]
def sc38_3 : List (Nat × Bool) := [(0, false), (1, false), (2, false), (3, false), (4, false), (5, false)]
def sc38_4 : List (Nat × Bool) := [(0, false), (1, false), (2, false), (3, false), (4, false), (5, false), (6, false), (7, false), (8, false), (9, false), (10, false), (11, false), (12, false)]
def sc41_2 : List (Nat × Bool) := [(0, false), (1, false), (2, false), (3, false), (4, false), (5, false), (6, false), (7, false), (8, false), (9, false), (10, false), (11, false), (12, false)]
def sc41_3 : List (Nat × Bool) := [(0, false), (1, false), (2, false), (3, true), (4, false), (5, true), (6, true), (7, true), (8, true), (9, false)]
def sc41_5 : List (Nat × Bool) := [(0, false), (2, false), (3, false), (4, false), (5, true), (6, false), (7, true), (8, true), (10, false), (11, false), (12, false), (13, true), (14, false), (15, true), (16, true), (1, true), (9, true), (17, true), (18, false), (19, false), (20, false), (21, false)]
def sc41_7 : List (Nat × Bool) := [(0, false), (1, false), (2, false), (3, true), (4, false), (5, true), (6, true), (7, true), (8, true), (9, true), (10, false), (11, true), (12, true), (13, true), (14, true), (15, true), (16, false), (17, false)]
def sc41_9 : List (Nat × Bool) := [(0, false), (1, false), (2, false), (3, false), (4, false), (5, false), (6, false), (7, false), (8, false)]
def sc41_11 : List (Nat × Bool) := [(0, false), (1, false), (2, false), (3, false), (4, false), (5, false), (6, false), (7, false), (8, false), (9, false), (10, false), (11, false), (12, false)]
def sc41_12 : List (Nat × Bool) := [(0, false), (1, false), (2, false), (3, true), (4, false), (5, true), (6, true), (7, true), (8, true), (9, false)]
def sc41_22 : List (Nat × Bool) := [(0, false), (1, false), (2, false), (3, false), (4, false), (5, false), (6, true), (7, false), (8, false), (9, true), (10, true), (11, true), (12, true), (13, false), (14, false)]
def sc41_24 : List (Nat × Bool) := [(0, false), (1, false), (2, false), (3, false), (4, false), (5, false), (6, false), (7, false), (8, false), (9, true), (10, false), (11, false), (12, true), (13, true), (14, false)]
def sc41_28 : List (Nat × Bool) := [(0, false), (1, false), (2, false), (3, false), (4, false), (5, false), (6, false), (7, false), (8, false)]
def sc42_11 : List (Nat × Bool) := [(0, false), (1, false), (2, false), (3, false), (4, false), (5, false), (6, false), (7, false), (8, false), (9, false)]
def sc42_15 : List (Nat × Bool) := [(0, false), (1, false), (2, false), (3, false), (4, true), (5, false), (6, true), (7, false), (8, false), (9, false), (10, false)]
def sc42_16 : List (Nat × Bool) := [(0, false), (1, false), (2, false), (3, false), (4, true), (5, false), (6, false), (7, false), (8, true), (9, false), (10, false), (11, false), (12, false)]
def sc42_17 : List (Nat × Bool) := [(0, false), (1, false), (2, false), (3, false), (4, false), (5, false), (6, false), (7, false), (8, false)]
def sc43_15 : List (Nat × Bool) := [(0, false), (1, false), (2, false), (3, false), (4, true), (5, false), (6, false), (7, false), (8, true), (9, false), (10, false), (11, false), (12, false)]
def sc43_21 : List (Nat × Bool) := [(0, false), (1, false), (2, false), (3, false), (4, false), (5, false), (6, false), (7, false), (8, false), (9, false), (10, false)]
def sc47_2 : List (Nat × Bool) := [(0, false), (1, false), (2, false), (3, false), (4, false), (5, false), (6, false), (7, false), (8, false), (9, false), (10, false), (11, false), (12, false), (13, false), (14, false), (15, false), (16, false), (17, false), (18, false), (19, false), (20, false), (21, false), (22, false), (23, false), (24, false), (25, false), (26, false), (27, false), (28, false), (29, false), (30, false), (31, false), (32, false), (33, false), (34, false), (35, false), (36, false), (37, false), (38, false), (39, false), (40, false), (41, false), (42, false), (43, false), (44, false), (45, false), (46, false), (47, false)]
def sc48_0 : List (Nat × Bool) := [(0, false), (1, false), (2, false), (3, false), (4, false), (5, false), (8, false), (9, false), (10, false), (11, false), (12, true), (6, true), (7, false), (13, false)]
def sc48_6 : List (Nat × Bool) := [(0, false), (1, false), (2, false), (3, false), (4, false), (5, false), (6, false), (7, false), (8, false), (9, false), (11, false), (12, false), (13, false), (10, false), (14, false), (15, false)]
def sc48_8 : List (Nat × Bool) := [(0, false), (1, false), (2, false), (3, false), (4, false), (5, false), (6, false), (7, false), (8, false), (9, false), (10, false), (11, false)]
def sc49_1 : List (Nat × Bool) := [(0, false), (1, false), (2, false), (3, false), (4, false), (5, false), (6, false), (7, false), (8, false), (9, false), (10, false), (11, false), (12, false), (13, false), (14, false), (15, false), (16, false)]
def sc49_4 : List (Nat × Bool) := [(0, false), (1, false), (2, false), (3, false), (4, false), (5, false), (6, false), (7, false), (8, false), (9, false), (10, false), (11, false), (12, false), (13, false), (14, false), (15, false), (16, false), (17, false), (18, false), (19, false), (20, false)]
def sc49_5 : List (Nat × Bool) := [(0, false), (1, false), (2, false), (3, false), (4, false), (5, false), (6, false), (7, false), (8, false), (9, false), (10, false), (11, false), (12, false), (13, false), (14, false), (15, false), (16, false), (17, false), (18, false), (19, false), (20, false), (21, false), (22, false), (23, false), (24, false), (25, false)]
def sc49_7 : List (Nat × Bool) := [(0, false), (1, false), (2, false), (3, false), (4, false), (5, false), (6, false), (7, false), (8, false), (9, false), (10, false), (11, false), (12, false), (13, false), (14, false), (15, false), (16, false), (17, false), (18, false), (19, false), (20, false), (21, false), (22, false), (23, false), (24, false), (25, false), (26, false), (27, false), (28, false), (29, false)]
def sc49_9 : List (Nat × Bool) := [(0, false), (1, false), (2, false), (3, false), (4, false), (5, false), (6, false), (7, false), (8, false), (9, false), (10, false), (11, false), (12, false), (13, false), (14, false), (15, false), (16, false), (17, false), (18, false), (19, false), (20, false), (21, false), (22, false), (23, false)]
def sc49_10 : List (Nat × Bool) := [(0, false), (1, false), (2, false), (3, false), (4, false), (5, false), (6, false), (7, false), (8, false), (9, false)]
def sc49_11 : List (Nat × Bool) := [(0, false), (1, false), (2, false), (3, false), (4, false), (5, false), (6, false), (7, false), (8, false)]
def sc50_1 : List (Nat × Bool) := [(0, false), (1, false), (2, false), (3, false), (4, false), (5, false), (6, false), (7, false), (8, false), (9, false), (10, false), (11, true), (12, false), (13, true), (14, false), (15, true), (16, false), (17, false)]
def sc50_2 : List (Nat × Bool) := [(0, false), (1, false), (2, false), (3, false), (4, true), (5, false), (6, true), (7, false), (8, false), (9, false), (10, false)]
def sc51_1 : List (Nat × Bool) := [(0, false), (1, false), (2, false), (3, false), (4, false), (5, false)]
def sc51_4 : List (Nat × Bool) := [(0, false), (1, false), (2, false), (3, false), (4, false), (5, false), (6, false), (7, false), (8, false), (9, false), (10, false), (11, false), (12, false), (13, false), (14, false), (15, false), (16, false), (17, false), (18, false), (19, false), (20, false), (21, false), (22, false), (23, false), (24, false)]
def sc51_5 : List (Nat × Bool) := [(0, false), (1, false), (2, true), (3, false), (4, false), (6, false), (5, true), (7, false)]
def sc51_7 : List (Nat × Bool) := [(0, false), (1, false), (2, false), (3, false), (4, false), (5, false), (6, false), (7, false), (8, false), (9, false), (10, false)]
def sc51_11 : List (Nat × Bool) := [(0, false), (1, false), (2, false), (3, false), (4, false), (5, false), (6, false), (7, false), (8, false), (9, false), (10, false), (11, false), (12, false), (13, false), (14, false), (15, false)]
def sc51_14 : List (Nat × Bool) := [(0, false), (1, false), (2, false), (3, false), (4, false), (5, false), (6, false), (7, false), (8, false), (9, false), (10, false), (11, false), (12, false), (13, false), (14, false)]
def sc52_1 : List (Nat × Bool) := [(0, false), (1, false), (2, false), (3, false), (4, false), (5, false), (6, false), (7, false)]
def sc52_2 : List (Nat × Bool) := [(0, false), (1, false), (2, false), (3, false), (4, false), (5, false), (6, false), (7, false), (8, false), (9, false), (10, false), (11, false), (12, false)]
def sc52_5 : List (Nat × Bool) := [(0, false), (1, false), (2, false), (3, false), (4, false), (5, false), (6, false), (7, false), (8, false), (9, false), (10, false), (11, false), (12, false), (13, false), (14, false), (15, false), (16, false), (17, false)]
def sc52_6 : List (Nat × Bool) := [(0, false), (1, false), (2, false), (3, false), (4, false), (5, false), (6, false), (7, false), (8, true), (9, false), (10, true), (11, false), (12, false), (13, true), (14, false), (15, false), (16, false), (17, false), (18, true), (19, false), (20, false), (21, false), (22, false), (23, true), (24, false), (25, false), (26, false), (27, false), (28, true), (29, false), (30, false), (31, false), (32, false), (33, true), (34, false), (35, false), (36, false), (37, false)]
def sc52_7 : List (Nat × Bool) := [(0, false), (1, false), (2, false), (3, false), (4, false), (5, false), (6, false), (7, false), (8, false), (9, false)]
def sc55_4 : List (Nat × Bool) := [(0, false), (1, false), (2, false), (3, false), (4, true), (5, false), (6, true), (7, false), (8, false), (9, false), (10, false)]
def sc56_15 : List (Nat × Bool) := [(0, false), (1, false), (2, false), (3, false), (4, false), (5, false), (6, false), (7, false), (8, false), (9, false), (10, false), (11, false)]
def sc57_9 : List (Nat × Bool) := [(0, false), (1, false), (2, false), (3, false), (4, false), (5, false), (6, false), (7, false), (8, false), (9, false), (10, false), (11, false), (12, false), (13, false), (14, false), (15, false)]
def sc57_10 : List (Nat × Bool) := [(0, false), (1, false), (2, false), (3, false), (4, false), (5, false), (6, false), (7, false), (8, false), (9, false), (10, false), (11, false), (12, false), (13, false), (14, false)]
def sc57_12 : List (Nat × Bool) := [(0, false), (1, false), (2, false), (3, false), (4, false), (5, false), (6, false), (7, false), (8, false), (9, false), (10, false), (11, false), (12, false), (13, false), (14, false), (15, false), (16, false), (17, false), (18, false), (19, false), (20, false), (21, false), (22, false), (23, false), (24, false), (25, false), (26, false)]
def sc58_7 : List (Nat × Bool) := [(0, false), (1, false), (2, false), (3, false), (4, false), (5, false), (6, false), (7, false), (8, false), (9, false), (10, false), (11, false), (12, false), (13, false), (14, false), (15, false), (16, false), (17, false), (18, false), (19, false), (20, false)]
def sc58_10 : List (Nat × Bool) := [(0, false), (1, false), (2, false), (3, false), (4, false), (5, false), (6, false), (7, false), (8, false), (9, false), (10, false)]
def sc58_17 : List (Nat × Bool) := [(0, false), (1, false), (2, false), (3, false), (4, false), (5, false), (6, false), (7, false), (8, false)]
def sc58_31 : List (Nat × Bool) := [(0, false), (2, false), (3, false), (4, false), (5, false), (6, false), (7, true), (8, false), (9, false), (10, false), (11, false), (12, false), (13, false), (14, true), (15, true), (16, true), (1, true), (17, false), (18, false), (19, false), (20, false), (21, false), (22, false)]
def sc58_35 : List (Nat × Bool) := [(0, false), (1, false), (2, false), (3, false), (4, false), (5, false), (6, true), (7, false), (8, true), (9, false), (10, false), (11, false), (12, false), (13, false), (14, false)]
def sc59_1 : List (Nat × Bool) := [(0, false), (1, false), (2, false), (3, false), (4, false), (5, false), (6, false), (7, false)]
def sc59_2 : List (Nat × Bool) := [(0, false), (1, false), (2, false), (3, false), (4, false), (5, false), (6, false), (7, false), (8, false), (9, false), (10, false), (11, false), (12, false)]
def sc59_5 : List (Nat × Bool) := [(0, false), (1, false), (2, false), (3, false), (4, false), (5, false), (6, false), (7, false), (8, false), (9, false), (10, false), (11, false), (12, false), (13, false), (14, false), (15, false), (16, false), (17, false), (18, false)]
def sc59_11 : List (Nat × Bool) := [(0, false), (1, false), (2, false), (3, false), (4, false), (5, false), (6, false), (7, false), (8, false), (9, false)]
def sc64_6 : List (Nat × Bool) := [(0, false), (1, false), (2, false), (3, false), (4, false), (5, false), (6, false), (7, false), (8, true), (9, false), (10, false), (11, false), (12, false), (13, false), (14, true), (15, false), (16, false)]
def sc67_1 : List (Nat × Bool) := [(0, false), (1, false), (2, false), (3, false), (4, false), (5, false), (6, true), (7, false), (8, false), (9, false), (10, false), (11, false), (12, false), (13, false), (14, false), (15, true), (16, false), (17, false), (18, false), (19, false), (20, false), (21, false)]
def sc67_3 : List (Nat × Bool) := [(0, false), (1, false), (2, false), (3, false), (4, false), (5, false), (6, false), (7, false), (8, false), (9, false), (10, false), (11, false), (12, false), (13, false), (14, true), (15, false), (16, false), (17, false), (18, false), (20, false), (21, false), (22, false), (19, true), (23, false), (24, false)]
def sc68_1 : List (Nat × Bool) := [(0, false), (1, false), (2, false), (3, false), (4, false), (5, false), (6, true), (7, false), (8, false), (9, false), (10, false), (11, false), (12, false), (13, false), (14, false), (15, true), (16, false), (17, false), (18, false), (19, false), (20, false), (21, false)]
def sc68_3 : List (Nat × Bool) := [(0, false), (1, false), (2, false), (3, false), (4, false), (5, false), (6, false), (7, false), (8, false), (9, false), (10, false), (11, false)]
def sc68_4 : List (Nat × Bool) := [(0, false), (1, false), (2, false), (3, false), (4, false), (5, false), (6, false), (7, false), (8, false), (9, false), (10, false), (11, false), (12, false)]
def sc70_4 : List (Nat × Bool) := [(0, false), (1, false), (2, false), (3, false), (4, true), (5, false), (6, true), (7, false), (8, false), (9, false), (10, false)]
def sc74_6 : List (Nat × Bool) := [(0, false), (1, false), (2, false), (3, false), (4, false), (5, false), (6, false), (7, false), (8, false), (9, false), (10, false), (11, false), (12, false), (13, false), (14, false), (15, false), (16, false), (17, false), (18, false), (19, false), (20, false)]
def sc74_8 : List (Nat × Bool) := [(0, false), (1, false), (2, false), (3, false), (4, false), (5, false), (6, true), (7, false), (8, true), (9, false), (10, false), (11, false), (12, false), (13, false), (14, false)]
def sc77_9 : List (Nat × Bool) := [(0, false), (1, true), (2, false), (3, false), (4, false), (5, false), (6, false), (7, true), (8, false), (9, false), (10, false)]
def sc78_1 : List (Nat × Bool) := [(0, false), (1, false), (2, false), (3, false), (4, false), (5, false), (6, false), (7, false), (8, false), (9, false), (10, false), (11, false), (12, false), (13, false), (14, false), (15, false), (16, false), (17, false), (18, false)]
end Go.Proofs.Ytjpjiniclibgkaa.Sx

namespace Go.Proofs.Ytjpjiniclibgkaa.Sx
open Go

structure Entry where
  kind : Int
  version : Int
  client : Int
  seq : Int
  data : ByteArray
structure Item where
  term : Int
  e : Entry
structure Log where
  term : Int
  vote : Int
  base : Int
  baseTerm : Int
  book : ByteArray
  items : List Item
structure Node where
  me : Int
  size : Int
  log : Log
  role : Int
  lead : Int
  commit : Int
  votes : Int
  next : Nat → Int
  mat : Nat → Int
structure Msg where
  frm : Int
  to : Int
  kind : Int
  term : Int
  last : Int
  lastTerm : Int
  commit : Int
  yes : Bool
  items : List Item
  book : ByteArray

def entryC (e : Entry) : List SV := [.i .i64 e.kind, .i .i64 e.version, .i .i64 e.client, .i .i64 e.seq, .s e.data]
def itemC (x : Item) : List SV := [.i .i64 x.term, .i .i64 x.e.kind, .i .i64 x.e.version, .i .i64 x.e.client, .i .i64 x.e.seq, .s x.e.data]
def itemV (x : Item) : List Value := [.int .i64 x.term, .int .i64 x.e.kind, .int .i64 x.e.version, .int .i64 x.e.client, .int .i64 x.e.seq, .string x.e.data]
def itemsV (xs : List Item) : List Value := xs.flatMap itemV
def logC (l : Log) (I : SV) : List SV := [.i .i64 l.term, .i .i64 l.vote, .i .i64 l.base, .i .i64 l.baseTerm, .s l.book, I]
def nodeC (n : Node) (I : SV) : List SV := [.i .i64 n.me, .i .i64 n.size, .i .i64 n.log.term, .i .i64 n.log.vote, .i .i64 n.log.base, .i .i64 n.log.baseTerm, .s n.log.book, I,
  .i .i64 n.role, .i .i64 n.lead, .i .i64 n.commit, .i .i64 n.votes, .gi 7 .i64 n.next, .gi 7 .i64 n.mat]
def msgC (m : Msg) (I : SV) : List SV := [.i .i64 m.frm, .i .i64 m.to, .i .i64 m.kind, .i .i64 m.term, .i .i64 m.last, .i .i64 m.lastTerm, .i .i64 m.commit, .b m.yes, I, .s m.book]

/-- What cells read as, in memory that stays. -/
def Cells (m : Mem) (A : Option Addr) (vs : List Value) : Prop := ∀ j v, vs[j]? = some v → ∃ a, A = some a ∧ mcell m (a.add j) = some v
theorem Cells.ext {m m' : Mem} (h : ∀ b o, m b = some o → m' b = some o) {A : Option Addr} {vs : List Value} (hc : Cells m A vs) : Cells m' A vs := by
  intro j v hj
  obtain ⟨a, ha, hm⟩ := hc j v hj
  refine ⟨a, ha, ?_⟩
  unfold mcell at hm ⊢
  cases hb : m (a.add j).block with
  | none => rw [hb] at hm; cases hm
  | some o => rw [hb] at hm; rw [h _ o hb]; exact hm
theorem Cells.rd {m : Mem} {A : Option Addr} {vs : List Value} (h : Cells m A vs) {o o' k : Nat} {us : List Value} (ho : o' = o) (hk : us.length = k) (hp : 0 < k) (hu : us = (vs.drop o).take k) : rdM m A o' k us := by
  subst ho hk
  have h0 : 0 < us.length := hp
  have hget : ∀ j u, us[j]? = some u → vs[o' + j]? = some u := by
    intro j u hj
    have hj' := congrArg (fun q => q[j]?) hu
    simp only [hj, List.getElem?_take, List.getElem?_drop] at hj'
    split at hj'
    · exact hj'.symm
    · cases hj'
  obtain ⟨a, ha, _⟩ := h _ _ (hget 0 _ (List.getElem?_eq_getElem h0))
  refine ⟨a, ha, rfl, fun j u hj => ?_⟩
  obtain ⟨a', ha', hm⟩ := h _ _ (hget j u hj)
  rw [ha] at ha'
  cases ha'
  exact hm
theorem Cells.all {m : Mem} {A : Option Addr} {vs : List Value} (h : Cells m A vs) (hp : 0 < vs.length) : rdM m A 0 vs.length vs := h.rd rfl rfl hp (by simp)
theorem Cells.of_sealed {m m' : Mem} {A : Option Addr} {cap n z : Nat} {xs : List Value} (h : Sealed m m' A cap n z xs) : Cells m' A xs := by
  intro j v hj
  have hjl := (List.getElem?_eq_some_iff.1 hj).1
  have hl := h.len
  have hn : 0 < n := by
    rcases Nat.eq_zero_or_pos n with h0 | h0
    · subst h0; omega
    · exact h0
  obtain ⟨a, ha, _, hc⟩ := h.rd hn
  refine ⟨a, ha, ?_⟩
  have := hc j v hj
  rwa [Nat.zero_add] at this

theorem itemV_len (x : Item) : (itemV x).length = 6 := rfl
theorem itemsV_len (xs : List Item) : (itemsV xs).length = xs.length * 6 := by
  unfold itemsV
  induction xs with
  | nil => rfl
  | cons x r ih => rw [List.flatMap_cons, List.length_append, itemV_len, ih, List.length_cons]; omega
theorem itemsV_one (xs : List Item) : ∀ u ∈ itemsV xs, u.oneCell' = true := by
  intro u hu
  simp only [itemsV, List.mem_flatMap] at hu
  obtain ⟨x, _, hx⟩ := hu
  simp only [itemV, List.mem_cons, List.not_mem_nil, or_false] at hx
  rcases hx with rfl | rfl | rfl | rfl | rfl | rfl <;> rfl
theorem itemsV_append (xs ys : List Item) : itemsV (xs ++ ys) = itemsV xs ++ itemsV ys := by simp [itemsV]
theorem itemsV_take (xs : List Item) : ∀ k, (itemsV xs).take (k * 6) = itemsV (xs.take k) := by
  induction xs with
  | nil => intro k; simp [itemsV]
  | cons x r ih =>
    intro k
    cases k with
    | zero => simp [itemsV]
    | succ k =>
      have h6 : (k + 1) * 6 = (itemV x).length + k * 6 := by rw [itemV_len]; omega
      show (itemV x ++ itemsV r).take _ = itemV x ++ itemsV (r.take k)
      rw [h6, List.take_append, Nat.add_sub_cancel_left, ih k, List.take_of_length_le (Nat.le_add_right _ _)]
theorem itemsV_drop (xs : List Item) : ∀ k, (itemsV xs).drop (k * 6) = itemsV (xs.drop k) := by
  induction xs with
  | nil => intro k; simp [itemsV]
  | cons x r ih =>
    intro k
    cases k with
    | zero => simp [itemsV]
    | succ k =>
      have h6 : (k + 1) * 6 = (itemV x).length + k * 6 := by rw [itemV_len]; omega
      show (itemV x ++ itemsV r).drop _ = itemsV (r.drop k)
      rw [h6, List.drop_append, Nat.add_sub_cancel_left, ih k, List.drop_eq_nil_of_le (Nat.le_add_right _ _), List.nil_append]
theorem itemsV_at {xs : List Item} {i : Nat} {x : Item} (h : xs[i]? = some x) (f k : Nat) (hf : f + k ≤ 6) : ((itemsV xs).drop (i * 6 + f)).take k = ((itemV x).drop f).take k := by
  have hd : xs.drop i = x :: xs.drop (i + 1) := by
    rw [List.drop_eq_getElem_cons (List.getElem?_eq_some_iff.1 h).1, (List.getElem?_eq_some_iff.1 h).2]
  rw [← List.drop_drop, itemsV_drop, hd]
  show ((itemV x ++ itemsV _).drop f).take k = _
  rw [List.drop_append_of_le_length (by rw [itemV_len]; omega), List.take_append_of_le_length (by rw [List.length_drop, itemV_len]; omega)]

/-! ### numbers that fit -/
def fits (x : Int) : Prop := -9223372036854775808 ≤ x ∧ x ≤ 9223372036854775807
theorem wrapi {x : Int} (h : fits x) : IntKind.i64.wrap x = x := by
  obtain ⟨h0, h1⟩ := h
  by_cases h : 0 ≤ x
  · have h2 : x % 2 ^ 64 = x := by omega
    simp only [IntKind.wrap, IntKind.bits, IntKind.signed, h2]
    rw [if_neg (by simp; omega)]
  · have h2 : x % 2 ^ 64 = x + 2 ^ 64 := by omega
    simp only [IntKind.wrap, IntKind.bits, IntKind.signed, h2]
    rw [if_pos (by simp; omega)]
    omega
theorem wrap_fits (x : Int) : fits (IntKind.i64.wrap x) := by
  have h1 : 0 ≤ x % 2 ^ 64 := by omega
  have h2 : x % 2 ^ 64 < 2 ^ 64 := by omega
  have e : IntKind.i64.wrap x = if x % 2 ^ 64 ≥ 9223372036854775808 then x % 2 ^ 64 - 2 ^ 64 else x % 2 ^ 64 := by
    simp only [IntKind.wrap, IntKind.bits, IntKind.signed]
    simp
  rw [e]
  unfold fits
  split <;> omega
theorem ifand (a b : Bool) : (if a = true then b else false) = (a && b) := by cases a <;> rfl
theorem ifor (a b : Bool) : (if a = true then true else b) = (a || b) := by cases a <;> rfl

/-! ### the document's words -/
def validB (e : Entry) : Bool := decide (e.kind ≥ 1) && decide (e.kind ≤ 3) && decide (e.version ≥ 0) && decide (e.client ≥ 0) && decide (e.seq ≥ 0) && decide ((e.data.size : Int) ≤ 16384)
def lastN (l : Log) : Int × Int := match l.items.getLast? with
  | some x => (IntKind.i64.wrap (l.base + l.items.length), x.term)
  | none => (l.base, l.baseTerm)
end Go.Proofs.Ytjpjiniclibgkaa.Sx

namespace Go.Proofs.Ytjpjiniclibgkaa.Sx
open Go

def noCP : CallP := CPs []
theorem noCP_ok {P : Program} : CPOk P noCP := CPs_ok fun f s h => by cases h
def lvA : List Nat := [0,1,2,3,4,5,6,7,8,9,10,11,12,13,14,15,16,17,18,19,20,21,22,23,24,25,26,27,28,29,30]
theorem ord : Try.prog.follows .mixedOrders = true := by rfl

def validSpec : Spec where
  A := Entry
  R := fun _ => True
  J := fun _ _ => none
  args := fun e => [.g (entryC e)]
  h := fun _ => []
  nx := 0
  Bb := Unit
  C := fun _ _ => True
  out := fun e _ => .ret (.b (validB e))
  h2 := fun _ _ => []
  nx2 := 0
  md := 1
set_option maxRecDepth 100000 in
theorem valid_ok : SpecOk Try.prog 61 validSpec := by
  refine spec_of_exec (fn := Try.f61) (c := Try.f61.body.getD .skip) (d := 0) (lv := lvA) T1_ok noCP_ok (fun B => noDP_ok B) validSpec (by rfl) (by rfl) (by rfl) (fun _ => by show 1 ≤ 32; omega) ?_
  intro e _
  conv => whnf
  refine ⟨(), trivial, ?_⟩
  conv => whnf
  refine ⟨?_, ?_⟩
  · simp only [ifand]; rfl
  conv => whnf
  exact fun _ _ h => h
set_option maxRecDepth 100000 in
theorem refValid_ok : SpecOk Try.prog 62 validSpec := by
  refine spec_of_exec (fn := Try.f62) (c := Try.f62.body.getD .skip) (d := 0) (lv := lvA) T1_ok noCP_ok (fun B => noDP_ok B) validSpec (by rfl) (by rfl) (by rfl) (fun _ => by show 1 ≤ 32; omega) ?_
  intro e _
  conv => whnf
  refine ⟨(), trivial, ?_⟩
  conv => whnf
  refine ⟨?_, ?_⟩
  · simp only [ifand]
    show (_ && _ && _ && _ && _ && _) = (_ && _ && _ && _ && _ && _)
    congr 5
    · exact decide_eq_decide.2 (by show e.kind < 4 ↔ e.kind ≤ 3; omega)
  conv => whnf
  exact fun _ _ h => h

structure LogG where
  l : Log
  A : Option Addr
  c : Nat
  m : Mem
def lastSpec : Spec where
  A := LogG
  R := fun ⟨l, A, _, m⟩ => Cells m A (itemsV l.items) ∧ l.items.length < 2 ^ 62
  J := fun ⟨_, _, _, m⟩ => m
  args := fun ⟨l, A, c, _⟩ => [.g (logC l (.sl A l.items.length c))]
  h := fun _ => []
  nx := 0
  Bb := Unit
  C := fun _ _ => True
  out := fun ⟨l, _, _, _⟩ _ => .ret (.t [.i .i64 (lastN l).1, .i .i64 (lastN l).2])
  h2 := fun _ _ => []
  nx2 := 0
  md := 1
theorem Cells.some' {m : Mem} {A : Option Addr} {xs : List Item} (hc : Cells m A (itemsV xs)) (hp : 0 < xs.length) : A.isSome = true := by
  obtain ⟨a, ha, _⟩ := hc 0 ((itemsV xs)[0]'(by rw [itemsV_len]; omega)) (List.getElem?_eq_getElem _)
  rw [ha]; rfl
theorem lastN_pos {l : Log} {x : Item} (hx : l.items[l.items.length - 1]? = some x) : lastN l = (IntKind.i64.wrap (l.base + l.items.length), x.term) := by
  unfold lastN
  rw [List.getLast?_eq_getElem?, hx]
theorem lastN_zero {l : Log} (h : l.items.length = 0) : lastN l = (l.base, l.baseTerm) := by
  unfold lastN
  rw [List.eq_nil_of_length_eq_zero h]; rfl
set_option maxRecDepth 100000 in
theorem last_ok : SpecOk Try.prog 36 lastSpec := by
  refine spec_of_exec (fn := Try.f36) (c := Try.f36.body.getD .skip) (d := 0) (lv := lvA) (DP := DPx T1 noCP lvA) T1_ok noCP_ok (fun B => DPx_ok T1_ok ord noCP_ok B) lastSpec (by rfl) (by rfl) (by rfl) (fun _ => by show 1 ≤ 25; omega) ?_
  rintro ⟨l, A, c, m⟩ ⟨hc, hn⟩
  conv => whnf
  refine ⟨fun hp => ?_, fun hz => ?_⟩
  · have hp : 0 < l.items.length := by have h2 := of_decide_eq_true hp; omega
    have hx : l.items[l.items.length - 1]? = some (l.items[l.items.length - 1]'(by omega)) := List.getElem?_eq_getElem _
    generalize l.items[l.items.length - 1]'(by omega) = x at hx
    have hw : IntKind.i64.wrap ((l.items.length : Int) - 1) = ((l.items.length - 1 : Nat) : Int) := by rw [wrapi ⟨by omega, by omega⟩]; omega
    have hl := lastN_pos hx
    have hA := hc.some' hp
    conv => whnf
    refine Or.inl ?_
    conv => whnf
    refine ⟨by kernel_rfl, ?_⟩
    conv => whnf
    refine ⟨by rw [hw]; exact ⟨Int.natCast_nonneg _, by show ((l.items.length - 1 : Nat) : Int) < (l.items.length : Int); omega, hA⟩, ?_⟩
    conv => whnf
    refine ⟨hA, ?_⟩
    conv => whnf
    refine ⟨.i .i64 x.term, ⟨rfl, rfl, hc.rd (o := (l.items.length - 1) * 6 + 0) (by show (IntKind.i64.wrap ((l.items.length : Int) - 1)).toNat * 6 + 0 = _; rw [hw, Int.toNat_natCast]) rfl (by decide) (by rw [itemsV_at hx 0 1 (by omega)]; rfl)⟩, ?_⟩
    conv => whnf
    refine ⟨(), trivial, ?_⟩
    conv => whnf
    repeat (first | exact fun _ _ h => h | (refine ⟨by first | (rw [hl]; done) | rfl, ?_⟩; conv => whnf))
  · have hz : l.items.length = 0 := by have h2 := of_decide_eq_false hz; omega
    have hl := lastN_zero hz
    conv => whnf
    refine Or.inl ?_
    conv => whnf
    refine ⟨by kernel_rfl, ?_⟩
    conv => whnf
    refine ⟨(), trivial, ?_⟩
    conv => whnf
    repeat (first | exact fun _ _ h => h | (refine ⟨by first | (rw [hl]; done) | rfl, ?_⟩; conv => whnf))
set_option maxRecDepth 100000 in
theorem refLast_ok : SpecOk Try.prog 38 lastSpec := by
  refine spec_of_exec (fn := Try.f38) (c := Try.f38.body.getD .skip) (d := 0) (lv := lvA) (DP := DPx T1 noCP lvA) T1_ok noCP_ok (fun B => DPx_ok T1_ok ord noCP_ok B) lastSpec (by rfl) (by rfl) (by rfl) (fun _ => by show 1 ≤ 25; omega) ?_
  rintro ⟨l, A, c, m⟩ ⟨hc, hn⟩
  conv => whnf
  refine ⟨fun hz => ?_, fun hp => ?_⟩
  · have hz : l.items.length = 0 := by have h2 : (l.items.length : Int) = 0 := eq_of_beq hz; omega
    have hl := lastN_zero hz
    conv => whnf
    refine Or.inl ?_
    conv => whnf
    refine ⟨by kernel_rfl, ?_⟩
    conv => whnf
    refine ⟨(), trivial, ?_⟩
    conv => whnf
    repeat (first | exact fun _ _ h => h | (refine ⟨by first | (rw [hl]; done) | rfl, ?_⟩; conv => whnf))
  · have hp : 0 < l.items.length := by
      have h2 : ¬ (l.items.length : Int) = 0 := fun e => by
        have h3 : ((l.items.length : Int) == 0) = false := hp
        rw [e] at h3; cases h3
      omega
    have hx : l.items[l.items.length - 1]? = some (l.items[l.items.length - 1]'(by omega)) := List.getElem?_eq_getElem _
    generalize l.items[l.items.length - 1]'(by omega) = x at hx
    have hw : IntKind.i64.wrap ((l.items.length : Int) - 1) = ((l.items.length - 1 : Nat) : Int) := by rw [wrapi ⟨by omega, by omega⟩]; omega
    have hl := lastN_pos hx
    have hA := hc.some' hp
    conv => whnf
    refine Or.inl ?_
    conv => whnf
    refine ⟨by kernel_rfl, ?_⟩
    conv => whnf
    refine ⟨by rw [hw]; exact ⟨Int.natCast_nonneg _, by show ((l.items.length - 1 : Nat) : Int) < (l.items.length : Int); omega, hA⟩, ?_⟩
    conv => whnf
    refine ⟨hA, ?_⟩
    conv => whnf
    refine ⟨.i .i64 x.term, ⟨rfl, rfl, hc.rd (o := (l.items.length - 1) * 6 + 0) (by show (IntKind.i64.wrap ((l.items.length : Int) - 1)).toNat * 6 + 0 = _; rw [hw, Int.toNat_natCast]) rfl (by decide) (by rw [itemsV_at hx 0 1 (by omega)]; rfl)⟩, ?_⟩
    conv => whnf
    refine ⟨(), trivial, ?_⟩
    conv => whnf
    repeat (first | exact fun _ _ h => h | (refine ⟨by first | (rw [hl]; done) | rfl, ?_⟩; conv => whnf))
end Go.Proofs.Ytjpjiniclibgkaa.Sx

namespace Go.Proofs.Ytjpjiniclibgkaa.Sx
open Go

def termAtN (l : Log) (i : Int) : Int × Bool :=
  if i = l.base then (l.baseTerm, true) else if l.base < i ∧ i - l.base ≤ l.items.length then (match l.items[(i - l.base - 1).toNat]? with | some x => (x.term, true) | none => (0, false)) else (0, false)
theorem wrapu (x : Int) : IntKind.u64.wrap x = x % 2 ^ 64 := by
  simp only [IntKind.wrap, IntKind.bits, IntKind.signed]
  simp
theorem usub {i b : Int} (hi : fits i) (hb : fits b) (h : b < i) : IntKind.u64.wrap (IntKind.u64.wrap i - IntKind.u64.wrap b) = i - b := by
  obtain ⟨h1, h2⟩ := hi
  obtain ⟨h3, h4⟩ := hb
  rw [wrapu, wrapu, wrapu]
  omega
theorem ulen {n : Nat} (h : n < 2 ^ 62) : IntKind.u64.wrap (n : Int) = (n : Int) := by
  rw [wrapu]; omega
structure TermG where
  l : Log
  A : Option Addr
  c : Nat
  i : Int
  m : Mem
def termSpec : Spec where
  A := TermG
  R := fun ⟨l, A, _, i, m⟩ => Cells m A (itemsV l.items) ∧ l.items.length < 2 ^ 62 ∧ fits i ∧ fits l.base
  J := fun ⟨_, _, _, _, m⟩ => m
  args := fun ⟨l, A, c, i, _⟩ => [.g (logC l (.sl A l.items.length c)), .i .i64 i]
  h := fun _ => []
  nx := 0
  Bb := Unit
  C := fun _ _ => True
  out := fun ⟨l, _, _, i, _⟩ _ => .ret (.t [.i .i64 (termAtN l i).1, .b (termAtN l i).2])
  h2 := fun _ _ => []
  nx2 := 0
  md := 1
theorem termAtN_base {l : Log} {i : Int} (h : i = l.base) : termAtN l i = (l.baseTerm, true) := by unfold termAtN; rw [if_pos h]
theorem termAtN_in {l : Log} {i : Int} {x : Item} (h : ¬ i = l.base) (h1 : l.base < i) (h2 : i - l.base ≤ l.items.length) (hx : l.items[(i - l.base - 1).toNat]? = some x) : termAtN l i = (x.term, true) := by
  unfold termAtN; rw [if_neg h, if_pos ⟨h1, h2⟩, hx]
theorem termAtN_out {l : Log} {i : Int} (h : ¬ i = l.base) (h1 : ¬ (l.base < i ∧ i - l.base ≤ l.items.length)) : termAtN l i = (0, false) := by
  unfold termAtN; rw [if_neg h, if_neg h1]
set_option maxRecDepth 100000 in
theorem term_ok : SpecOk Try.prog 37 termSpec := by
  refine spec_of_exec (fn := Try.f37) (c := Try.f37.body.getD .skip) (d := 0) (lv := lvA) (DP := DPx T1 noCP lvA) T1_ok noCP_ok (fun B => DPx_ok T1_ok ord noCP_ok B) termSpec (by rfl) (by rfl) (by rfl) (fun _ => by show 2 ≤ 41; omega) ?_
  rintro ⟨l, A, c, i, m⟩ ⟨hc, hn, hi, hb⟩
  conv => whnf
  refine ⟨fun he => ?_, fun hne => ?_⟩
  · have hl := termAtN_base (l := l) (i := i) (eq_of_beq he)
    conv => whnf
    refine ⟨(), trivial, ?_⟩
    conv => whnf
    repeat (first | exact fun _ _ h => h | (refine ⟨by first | (rw [hl]; done) | rfl, ?_⟩; conv => whnf))
  · have hne : ¬ i = l.base := fun e => by
      have h3 : (i == l.base) = false := hne
      rw [e, beq_self_eq_true] at h3; cases h3
    conv => whnf
    refine ⟨fun hin => ?_, fun hout => ?_⟩
    · have hin : (if decide (i > l.base) = true then decide (IntKind.u64.wrap (IntKind.u64.wrap i - IntKind.u64.wrap l.base) ≤ IntKind.u64.wrap (l.items.length : Int)) else false) = true := hin
      rw [ifand, Bool.and_eq_true, decide_eq_true_eq, decide_eq_true_eq] at hin
      obtain ⟨h1, h2⟩ := hin
      rw [usub hi hb h1, ulen hn] at h2
      have h1 : l.base < i := h1
      have hf : fits (i - l.base) := ⟨by omega, by omega⟩
      have hf2 : fits (i - l.base - 1) := ⟨by omega, by omega⟩
      have hw : IntKind.i64.wrap (IntKind.i64.wrap (i - l.base) - 1) = i - l.base - 1 := by rw [wrapi hf, wrapi hf2]
      obtain ⟨x, hx⟩ : ∃ x, l.items[(i - l.base - 1).toNat]? = some x := ⟨_, List.getElem?_eq_getElem (by omega)⟩
      have hl := termAtN_in hne h1 h2 hx
      have hA := hc.some' (by omega)
      conv => whnf
      refine ⟨by rw [hw]; exact ⟨by omega, by show i - l.base - 1 < (l.items.length : Int); omega, hA⟩, ?_⟩
      conv => whnf
      refine ⟨hA, ?_⟩
      conv => whnf
      refine ⟨.i .i64 x.term, ⟨rfl, rfl, hc.rd (o := (i - l.base - 1).toNat * 6 + 0) (by show (IntKind.i64.wrap (IntKind.i64.wrap (i - l.base) - 1)).toNat * 6 + 0 = _; rw [hw]) rfl (by decide) (by rw [itemsV_at hx 0 1 (by omega)]; rfl)⟩, ?_⟩
      conv => whnf
      refine ⟨(), trivial, ?_⟩
      conv => whnf
      repeat (first | exact fun _ _ h => h | (refine ⟨by first | (rw [hl]; done) | rfl, ?_⟩; conv => whnf))
    · have hout : (if decide (i > l.base) = true then decide (IntKind.u64.wrap (IntKind.u64.wrap i - IntKind.u64.wrap l.base) ≤ IntKind.u64.wrap (l.items.length : Int)) else false) = false := hout
      have hl := termAtN_out (l := l) (i := i) hne (fun ⟨h1, h2⟩ => by
        rw [usub hi hb h1, ulen hn] at hout
        have h3 : decide (i > l.base) = true := decide_eq_true h1
        have h4 : decide (i - l.base ≤ (l.items.length : Int)) = true := decide_eq_true h2
        rw [h3, h4] at hout
        cases hout)
      conv => whnf
      refine ⟨(), trivial, ?_⟩
      conv => whnf
      repeat (first | exact fun _ _ h => h | (refine ⟨by first | (rw [hl]; done) | rfl, ?_⟩; conv => whnf))
set_option maxRecDepth 100000 in
theorem refTerm_ok : SpecOk Try.prog 20 termSpec := by
  refine spec_of_exec (fn := Try.f20) (c := Try.f20.body.getD .skip) (d := 0) (lv := lvA) (DP := DPx T1 noCP lvA) T1_ok noCP_ok (fun B => DPx_ok T1_ok ord noCP_ok B) termSpec (by rfl) (by rfl) (by rfl) (fun _ => by show 2 ≤ 39; omega) ?_
  rintro ⟨l, A, c, i, m⟩ ⟨hc, hn, hi, hb⟩
  conv => whnf
  refine ⟨fun he => ?_, fun hne => ?_⟩
  · have hl := termAtN_base (l := l) (i := i) (eq_of_beq he)
    conv => whnf
    refine ⟨(), trivial, ?_⟩
    conv => whnf
    repeat (first | exact fun _ _ h => h | (refine ⟨by first | (rw [hl]; done) | rfl, ?_⟩; conv => whnf))
  · have hne : ¬ i = l.base := fun e => by
      have h3 : (i == l.base) = false := hne
      rw [e, beq_self_eq_true] at h3; cases h3
    conv => whnf
    refine ⟨fun hout => ?_, fun hin => ?_⟩
    · have hout : (if decide (i < l.base) = true then true else decide (IntKind.u64.wrap (IntKind.u64.wrap i - IntKind.u64.wrap l.base) > IntKind.u64.wrap (l.items.length : Int))) = true := hout
      have hl := termAtN_out (l := l) (i := i) hne (fun ⟨h1, h2⟩ => by
        rw [usub hi hb h1, ulen hn] at hout
        have h3 : decide (i < l.base) = false := decide_eq_false (by omega)
        have h4 : decide (i - l.base > (l.items.length : Int)) = false := decide_eq_false (by omega)
        rw [h3, h4] at hout
        cases hout)
      conv => whnf
      refine ⟨(), trivial, ?_⟩
      conv => whnf
      repeat (first | exact fun _ _ h => h | (refine ⟨by first | (rw [hl]; done) | rfl, ?_⟩; conv => whnf))
    · have hin : (if decide (i < l.base) = true then true else decide (IntKind.u64.wrap (IntKind.u64.wrap i - IntKind.u64.wrap l.base) > IntKind.u64.wrap (l.items.length : Int))) = false := hin
      rw [ifor, Bool.or_eq_false_iff, decide_eq_false_iff_not, decide_eq_false_iff_not] at hin
      obtain ⟨h1, h2⟩ := hin
      have h1 : l.base < i := by omega
      rw [usub hi hb h1, ulen hn] at h2
      have h2 : i - l.base ≤ (l.items.length : Int) := by omega
      have hf : fits (i - l.base) := ⟨by omega, by omega⟩
      have hf2 : fits (i - l.base - 1) := ⟨by omega, by omega⟩
      have hw : IntKind.i64.wrap (IntKind.i64.wrap (i - l.base) - 1) = i - l.base - 1 := by rw [wrapi hf, wrapi hf2]
      obtain ⟨x, hx⟩ : ∃ x, l.items[(i - l.base - 1).toNat]? = some x := ⟨_, List.getElem?_eq_getElem (by omega)⟩
      have hl := termAtN_in hne h1 h2 hx
      have hA := hc.some' (by omega)
      conv => whnf
      refine ⟨by rw [hw]; exact ⟨by omega, by show i - l.base - 1 < (l.items.length : Int); omega, hA⟩, ?_⟩
      conv => whnf
      refine ⟨hA, ?_⟩
      conv => whnf
      refine ⟨.i .i64 x.term, ⟨rfl, rfl, hc.rd (o := (i - l.base - 1).toNat * 6 + 0) (by show (IntKind.i64.wrap (IntKind.i64.wrap (i - l.base) - 1)).toNat * 6 + 0 = _; rw [hw]) rfl (by decide) (by rw [itemsV_at hx 0 1 (by omega)]; rfl)⟩, ?_⟩
      conv => whnf
      refine ⟨(), trivial, ?_⟩
      conv => whnf
      repeat (first | exact fun _ _ h => h | (refine ⟨by first | (rw [hl]; done) | rfl, ?_⟩; conv => whnf))

def copyOut : Nat → SV := fun n => .rw 0 n
structure ItemsG where
  xs : List Item
  A : Option Addr
  c : Nat
  m : Mem
def cloneSpec : Spec where
  A := ItemsG
  R := fun ⟨xs, A, _, m⟩ => Cells m A (itemsV xs) ∧ xs.length ≤ 2 ^ 40
  J := fun ⟨_, _, _, m⟩ => m
  args := fun ⟨xs, A, c, _⟩ => [.sl A xs.length c]
  h := fun _ => []
  nx := 0
  Bb := Unit
  C := fun _ _ => True
  out := fun ⟨xs, _, _, _⟩ _ => .ret (.rw 0 xs.length)
  h2 := fun ⟨xs, _, _, _⟩ _ => [(0, .row 44 6 xs.length (itemsV xs))]
  nx2 := 1
  md := 1
theorem Cells.src {m : Mem} {A : Option Addr} {xs : List Item} (h : Cells m A (itemsV xs)) : (itemsV xs).length = xs.length * 6 ∧ (∀ u ∈ itemsV xs, u.oneCell' = true) ∧ (0 < xs.length → rdM m A 0 (xs.length * 6) (itemsV xs)) :=
  ⟨itemsV_len xs, itemsV_one xs, fun hp => by
    have := h.all (by rw [itemsV_len]; omega)
    rwa [itemsV_len] at this⟩
theorem Cells.nil_of_none {m : Mem} {xs : List Item} (h : Cells m none (itemsV xs)) : xs = [] := by
  cases xs with
  | nil => rfl
  | cons x r =>
    have := h.some' (by simp)
    cases this
set_option maxRecDepth 100000 in
theorem clone_ok : SpecOk Try.prog 75 cloneSpec := by
  refine spec_of_exec (fn := Try.f75) (c := Try.f75.body.getD .skip) (d := 0) (lv := lvA) (DP := DPx T1 noCP lvA) T1_ok noCP_ok (fun B => DPx_ok T1_ok ord noCP_ok B) cloneSpec (by rfl) (by rfl) (by rfl) (fun _ => by show 1 ≤ 8; omega) ?_
  rintro ⟨xs, A, c, m⟩ ⟨hc, hn⟩
  conv => whnf
  refine ⟨fun hnil => ?_, fun hno => ?_⟩
  · have hA : A = none := Option.isNone_iff_eq_none.1 hnil
    subst hA
    have hx := hc.nil_of_none
    subst hx
    conv => whnf
    refine ⟨(), trivial, ?_⟩
    conv => whnf
    repeat (first | exact fun _ _ h => h | (refine ⟨by first | exact ⟨rfl, rfl, rfl⟩ | exact ⟨rfl, rfl⟩ | rfl, ?_⟩; conv => whnf))
  · conv => whnf
    refine ⟨itemsV xs, hc.src, ?_⟩
    conv => whnf
    refine ⟨⟨Nat.le_refl _, by show (0 + xs.length) * 56 ≤ _; omega, by omega⟩, ?_⟩
    conv => whnf
    refine ⟨(), trivial, ?_⟩
    conv => whnf
    repeat (first | exact fun _ _ h => h | (refine ⟨by first | exact Nat.zero_add _ | exact ⟨Nat.zero_add _, rfl⟩, ?_⟩; conv => whnf))
end Go.Proofs.Ytjpjiniclibgkaa.Sx

namespace Go.Proofs.Ytjpjiniclibgkaa.Sx
open Go

def S1 : List (Nat × Spec) := [(75, cloneSpec), (36, lastSpec), (38, lastSpec), (37, termSpec), (20, termSpec), (61, validSpec), (62, validSpec)]
theorem S1_ok : CPOk Try.prog (CPs S1) := CPs_ok fun f s h => by
  simp only [S1, findS] at h
  repeat' split at h
  all_goals first | (rename_i hb; obtain rfl := beq_eq hb; cases h; first | exact clone_ok | exact last_ok | exact refLast_ok | exact term_ok | exact refTerm_ok | exact valid_ok | exact refValid_ok) | cases h
structure CopyG where
  l : Log
  A : Option Addr
  c : Nat
  m : Mem
def copySpec : Spec where
  A := CopyG
  R := fun ⟨l, A, _, m⟩ => Cells m A (itemsV l.items) ∧ l.items.length ≤ 2 ^ 40
  J := fun ⟨_, _, _, m⟩ => m
  args := fun ⟨l, A, c, _⟩ => [.g (logC l (.sl A l.items.length c))]
  h := fun _ => []
  nx := 0
  Bb := Unit
  C := fun _ _ => True
  out := fun ⟨l, _, _, _⟩ _ => .ret (.g (logC l (.rw 0 l.items.length)))
  h2 := fun ⟨l, _, _, _⟩ _ => [(0, .row 44 6 l.items.length (itemsV l.items))]
  nx2 := 1
  md := 1
set_option maxRecDepth 100000 in
theorem copied_ok : SpecOk Try.prog 69 copySpec := by
  refine spec_of_exec (fn := Try.f69) (c := Try.f69.body.getD .skip) (d := 0) (lv := lvA) (DP := DPx T1 (CPs S1) lvA) T1_ok S1_ok (fun B => DPx_ok T1_ok ord S1_ok B) copySpec (by rfl) (by rfl) (by rfl) (fun _ => by show 1 ≤ 8; omega) ?_
  rintro ⟨l, A, c, m⟩ ⟨hc, hn⟩
  conv => whnf
  refine ⟨⟨l.items, A, c, m⟩, ⟨hc, hn⟩, ?_⟩
  conv => whnf
  repeat (first | (refine ⟨by first | exact ⟨rfl, rfl, rfl⟩ | rfl | exact fun _ _ h => h, ?_⟩; conv => whnf))
  intro _ _
  conv => whnf
  refine ⟨(), trivial, ?_⟩
  conv => whnf
  repeat (first | exact fun _ _ h => h | (refine ⟨by first | exact ⟨rfl, rfl, rfl⟩ | rfl | exact ⟨rfl, rfl⟩, ?_⟩; conv => whnf))
set_option maxRecDepth 100000 in
theorem refCopy_ok : SpecOk Try.prog 22 copySpec := by
  refine spec_of_exec (fn := Try.f22) (c := Try.f22.body.getD .skip) (d := 0) (lv := lvA) (DP := DPx T1 (CPs S1) lvA) T1_ok S1_ok (fun B => DPx_ok T1_ok ord S1_ok B) copySpec (by rfl) (by rfl) (by rfl) (fun _ => by show 1 ≤ 9; omega) ?_
  rintro ⟨l, A, c, m⟩ ⟨hc, hn⟩
  conv => whnf
  refine ⟨itemsV l.items, hc.src, ?_⟩
  conv => whnf
  refine ⟨⟨Nat.le_refl _, by show (0 + l.items.length) * 56 ≤ _; omega, by omega⟩, ?_⟩
  conv => whnf
  refine ⟨(), trivial, ?_⟩
  conv => whnf
  repeat (first | exact fun _ _ h => h | (refine ⟨by first | exact ⟨rfl, rfl, rfl⟩ | rfl | exact Nat.zero_add _ | exact ⟨Nat.zero_add _, rfl⟩, ?_⟩; conv => whnf))
/-- A turn's block. -/
def turnC (n : Node) (I O : SV) : List SV := [.i .i64 n.me, .i .i64 n.size, .i .i64 n.log.term, .i .i64 n.log.vote, .i .i64 n.log.base, .i .i64 n.log.baseTerm, .s n.log.book, I,
  .i .i64 n.role, .i .i64 n.lead, .i .i64 n.commit, .i .i64 n.votes, .gi 7 .i64 n.next, .gi 7 .i64 n.mat, O]
structure NodeG where
  n : Node
  A : Option Addr
  c : Nat
  m : Mem
def beginSpec (t : TypeId) : Spec where
  A := NodeG
  R := fun ⟨n, A, _, m⟩ => Cells m A (itemsV n.log.items) ∧ n.log.items.length ≤ 2 ^ 40
  J := fun ⟨_, _, _, m⟩ => m
  args := fun ⟨n, A, c, _⟩ => [.g (nodeC n (.sl A n.log.items.length c))]
  h := fun _ => []
  nx := 0
  Bb := Unit
  C := fun _ _ => True
  out := fun _ _ => .ret (.p 0 0)
  h2 := fun ⟨n, _, _, _⟩ _ => [(0, .st t (turnC n (.rw 1 n.log.items.length) (.sl none 0 0))), (1, .row 44 6 n.log.items.length (itemsV n.log.items))]
  nx2 := 2
  md := 1
def S2 : List (Nat × Spec) := (69, copySpec) :: (22, copySpec) :: S1
theorem S2_ok : CPOk Try.prog (CPs S2) := CPs_ok fun f s h => by
  simp only [S2, S1, findS] at h
  repeat' split at h
  all_goals first | (rename_i hb; obtain rfl := beq_eq hb; cases h; first | exact copied_ok | exact refCopy_ok | exact clone_ok | exact last_ok | exact refLast_ok | exact term_ok | exact refTerm_ok | exact valid_ok | exact refValid_ok) | cases h
set_option maxRecDepth 100000 in
theorem begin_ok : SpecOk Try.prog 45 (beginSpec 78) := by
  refine spec_of_exec (fn := Try.f45) (c := Try.f45.body.getD .skip) (d := 0) (lv := lvA) (DP := DPx T1 (CPs S2) lvA) T1_ok S2_ok (fun B => DPx_ok T1_ok ord S2_ok B) (beginSpec 78) (by rfl) (by rfl) (by rfl) (fun _ => by show 1 ≤ 10; omega) ?_
  rintro ⟨n, A, c, m⟩ ⟨hc, hn⟩
  conv => whnf
  refine ⟨⟨n.log, A, c, m⟩, ⟨hc, hn⟩, ?_⟩
  conv => whnf
  repeat (first | (refine ⟨by first | exact ⟨rfl, rfl, rfl⟩ | rfl | exact fun _ _ h => h, ?_⟩; conv => whnf))
  intro _ _
  conv => whnf
  refine ⟨(), trivial, ?_⟩
  conv => whnf
  repeat (first | exact fun _ _ h => h | (refine ⟨by first | exact ⟨rfl, rfl, rfl⟩ | rfl | exact ⟨rfl, rfl⟩ | exact ⟨rfl, fun _ _ => rfl⟩, ?_⟩; conv => whnf))
set_option maxRecDepth 100000 in
theorem refBegin_ok : SpecOk Try.prog 53 (beginSpec 85) := by
  refine spec_of_exec (fn := Try.f53) (c := Try.f53.body.getD .skip) (d := 0) (lv := lvA) (DP := DPx T1 (CPs S2) lvA) T1_ok S2_ok (fun B => DPx_ok T1_ok ord S2_ok B) (beginSpec 85) (by rfl) (by rfl) (by rfl) (fun _ => by show 1 ≤ 10; omega) ?_
  rintro ⟨n, A, c, m⟩ ⟨hc, hn⟩
  conv => whnf
  refine ⟨⟨n.log, A, c, m⟩, ⟨hc, hn⟩, ?_⟩
  conv => whnf
  repeat (first | (refine ⟨by first | exact ⟨rfl, rfl, rfl⟩ | rfl | exact fun _ _ h => h, ?_⟩; conv => whnf))
  intro _ _
  conv => whnf
  refine ⟨(), trivial, ?_⟩
  conv => whnf
  repeat (first | exact fun _ _ h => h | (refine ⟨by first | exact ⟨rfl, rfl, rfl⟩ | rfl | exact ⟨rfl, rfl⟩ | exact ⟨rfl, fun _ _ => rfl⟩, ?_⟩; conv => whnf))
end Go.Proofs.Ytjpjiniclibgkaa.Sx

namespace Go.Proofs.Ytjpjiniclibgkaa.Sx
open Go

/-- Each item can be, and its term isn't below the one ahead of it. -/
def chainB : Int → List Item → Bool
  | _, [] => true
  | w, x :: r => !(decide (x.term < w) || !(validB x.e)) && chainB x.term r
def endT : Int → List Item → Int
  | w, [] => w
  | _, x :: r => endT x.term r
theorem chain_snoc (xs : List Item) (x : Item) : ∀ w, chainB w (xs ++ [x]) = (chainB w xs && !(decide (x.term < endT w xs) || !(validB x.e))) := by
  induction xs with
  | nil => intro w; show (_ && true) = (true && _); rw [Bool.and_true, Bool.true_and]; rfl
  | cons y r ih => intro w; show (_ && chainB y.term (r ++ [x])) = ((_ && chainB y.term r) && _); rw [ih]; exact (Bool.and_assoc _ _ _).symm
theorem last_snoc (xs : List Item) (x : Item) : ∀ w, endT w (xs ++ [x]) = x.term := by
  induction xs with
  | nil => intro w; rfl
  | cons y r ih => intro w; simp only [List.cons_append, endT, ih]
theorem take_snoc {xs : List Item} {i : Nat} {x : Item} (h : xs[i]? = some x) : xs.take (i + 1) = xs.take i ++ [x] := by
  rw [List.take_add_one, h, Option.toList_some]
theorem chain_take (xs : List Item) : ∀ (w : Int) (i : Nat), chainB w xs = true → chainB w (xs.take i) = true := by
  induction xs with
  | nil => intro w i h; simp [chainB]
  | cons x r ih =>
    intro w i h
    cases i with
    | zero => simp [chainB]
    | succ i =>
      simp only [List.take_succ_cons, chainB, Bool.and_eq_true] at h ⊢
      exact ⟨h.1, ih _ _ h.2⟩
theorem chain_bad {xs : List Item} {i : Nat} {x : Item} {w : Int} (h : xs[i]? = some x) (hb : (decide (x.term < endT w (xs.take i)) || !(validB x.e)) = true) : chainB w xs = false := by
  cases hc : chainB w xs with
  | false => rfl
  | true =>
    have := chain_take xs w (i + 1) hc
    rw [take_snoc h, chain_snoc, hb] at this
    simp at this
def badB (l : Log) (size : Int) : Bool := decide (l.term < 0) || decide (l.term > 1099511627776) || decide (l.vote < -1) || decide (l.vote ≥ size) || decide (l.base < 0) || decide (l.base > 1099511627776) || decide (l.baseTerm < 0) || decide ((l.items.length : Int) > 256)
def goodLogB (l : Log) (size : Int) : Bool := !(badB l size) && chainB l.baseTerm l.items && decide (endT l.baseTerm l.items ≤ l.term)
theorem wrapi_succ {i : Nat} (h : i < 2 ^ 62) : IntKind.i64.wrap ((i : Int) + 1) = ((i + 1 : Nat) : Int) := by rw [wrapi ⟨by omega, by omega⟩]; omega
structure GoodLogG where
  l : Log
  size : Int
  A : Option Addr
  c : Nat
  m : Mem
def goodLogSpec : Spec where
  A := GoodLogG
  R := fun ⟨l, _, A, _, m⟩ => Cells m A (itemsV l.items) ∧ l.items.length < 2 ^ 62
  J := fun ⟨_, _, _, _, m⟩ => m
  args := fun ⟨l, size, A, c, _⟩ => [.g (logC l (.sl A l.items.length c)), .i .i64 size]
  h := fun _ => []
  nx := 0
  Bb := Unit
  C := fun _ _ => True
  out := fun ⟨l, size, _, _, _⟩ _ => .ret (.b (goodLogB l size))
  h2 := fun _ _ => []
  nx2 := 0
  md := 1
set_option maxRecDepth 100000 in
theorem goodLog_ok : SpecOk Try.prog 34 goodLogSpec := by
  refine spec_of_exec (fn := Try.f34) (c := Try.f34.body.getD .skip) (d := 1) (lv := lvA ++ [47, 51, 52, 53, 54, 66]) (DP := DPx T1 (CPs S2) (lvA ++ [47, 51, 52, 53, 54, 66])) T1_ok S2_ok (fun B => DPx_ok T1_ok ord S2_ok B) goodLogSpec (by rfl) (by rfl) (by rfl) (fun _ => by show 2 ≤ 74; omega) ?_
  rintro ⟨l, size, A, c, m⟩ ⟨hc, hn⟩
  obtain ⟨n, hln⟩ : ∃ n, n = l.items.length := ⟨_, rfl⟩
  conv => whnf
  refine ⟨fun hbad => ?_, fun hok => ?_⟩
  · have hbad : badB l size = true := by rw [← hbad]; simp only [ifor]; rfl
    have hr : goodLogB l size = false := by unfold goodLogB; rw [hbad]; rfl
    conv => whnf
    refine ⟨(), trivial, ?_⟩
    conv => whnf
    repeat (first | exact fun _ _ h => h | (refine ⟨by first | exact hr.symm | rfl, ?_⟩; conv => whnf))
  · have hok : badB l size = false := by rw [← hok]; simp only [ifor]; rfl
    conv => whnf
    refine ⟨Nat, fun i => i ≤ n ∧ chainB l.baseTerm (l.items.take i) = true, fun i => ⟨74, [⟨2, [], .p 0 0⟩, ⟨4, [], .b false⟩, ⟨5, [], .i .i64 (endT l.baseTerm (l.items.take i))⟩, ⟨51, [], .sl A n c⟩, ⟨52, [], .i .i64 n⟩, ⟨53, [], .i .i64 i⟩], [], [(0, .st 24 (logC l (.sl A n c)))], 1⟩, fun _ => m, fun i => n - i, ⟨0, rfl, ⟨Nat.zero_le _, rfl⟩, ?_⟩, ?_⟩
    · conv => whnf
      repeat (first | exact trivial | (refine ⟨by first | exact ⟨rfl, rfl, rfl⟩ | rfl | exact ⟨rfl, hln.symm, rfl⟩ | exact congrArg Int.ofNat hln.symm, ?_⟩; conv => whnf))
    · rintro i ⟨hi, hch⟩
      conv => whnf
      refine ⟨fun hlt => ?_, fun hge => ?_⟩
      · have hlt : i < n := by have h2 := of_decide_eq_true hlt; omega
        obtain ⟨x, hx⟩ : ∃ x, l.items[i]? = some x := ⟨_, List.getElem?_eq_getElem (by omega)⟩
        have hA := hc.some' (by omega)
        conv => whnf
        refine ⟨⟨Int.natCast_nonneg _, by show (i : Int) < (n : Int); omega, hA⟩, ?_⟩
        conv => whnf
        refine ⟨.g (itemC x), ⟨rfl, rfl, hc.rd (o := i * 6 + 0) (by show (i : Int).toNat * 6 = _; rw [Int.toNat_natCast, Nat.add_zero]) rfl (by show 0 < 6; decide) (by rw [itemsV_at hx 0 6 (by omega)]; rfl)⟩, ?_⟩
        conv => whnf
        refine ⟨fun hb1 => ?_, fun hb1 => ?_⟩
        · have hb : (decide (x.term < endT l.baseTerm (l.items.take i)) || !(validB x.e)) = true := by
            have h2 : decide (x.term < endT l.baseTerm (l.items.take i)) = true := hb1
            rw [h2]; rfl
          conv => whnf
          refine ⟨fun _ => ?_, fun h => (by cases h)⟩
          have hr : goodLogB l size = false := by unfold goodLogB; rw [chain_bad hx hb]; simp
          conv => whnf
          refine ⟨(), trivial, ?_⟩
          conv => whnf
          repeat (first | exact fun _ _ h => h | (refine ⟨by first | exact hr.symm | rfl, ?_⟩; conv => whnf))
        · conv => whnf
          refine ⟨x.e, trivial, ?_⟩
          conv => whnf
          repeat (first | (refine ⟨by first | exact ⟨rfl, rfl, rfl⟩ | rfl | exact fun _ _ h => (by cases h), ?_⟩; conv => whnf))
          intro _ _
          conv => whnf
          have hs : decide (x.term < endT l.baseTerm (l.items.take i)) = false := hb1
          refine ⟨fun hb2 => ?_, fun hb2 => ?_⟩
          · have hb : (decide (x.term < endT l.baseTerm (l.items.take i)) || !(validB x.e)) = true := by
              rw [hs]; exact hb2
            conv => whnf
            have hr : goodLogB l size = false := by unfold goodLogB; rw [chain_bad hx hb]; simp
            refine ⟨(), trivial, ?_⟩
            conv => whnf
            repeat (first | exact fun _ _ h => h | (refine ⟨by first | exact hr.symm | rfl, ?_⟩; conv => whnf))
          · have hb : (decide (x.term < endT l.baseTerm (l.items.take i)) || !(validB x.e)) = false := by
              rw [hs]; exact hb2
            have hch' : chainB l.baseTerm (l.items.take (i + 1)) = true := by rw [take_snoc hx, chain_snoc, hch, hb]; rfl
            have hl' : endT l.baseTerm (l.items.take (i + 1)) = x.term := by rw [take_snoc hx, last_snoc]
            conv => whnf
            refine ⟨i + 1, rfl, ⟨⟨hlt, hch'⟩, by show n - (i + 1) < n - i; omega⟩, ?_⟩
            conv => whnf
            repeat (first | exact trivial | (refine ⟨by first | exact ⟨rfl, rfl, rfl⟩ | rfl | exact hl'.symm | exact hl' | exact wrapi_succ (Nat.lt_of_lt_of_le hlt (by omega)), ?_⟩; conv => whnf))
      · have hge : i = n := by have h2 := of_decide_eq_false hge; omega
        subst hge
        conv => whnf
        refine ⟨(), trivial, ?_⟩
        conv => whnf
        have hr : decide (endT l.baseTerm (l.items.take i) ≤ l.term) = goodLogB l size := by
          unfold goodLogB
          rw [hok]
          rw [hln, List.take_length] at hch ⊢
          rw [hch]; rfl
        repeat (first | exact fun _ _ h => h | (refine ⟨by first | exact hr | rfl, ?_⟩; conv => whnf))
end Go.Proofs.Ytjpjiniclibgkaa.Sx

namespace Go.Proofs.Ytjpjiniclibgkaa.Sx
open Go

/-! ### GoodLog of the document -/
def okB (l : Log) (size : Int) : Bool := decide (l.term ≥ 0) && decide (l.term ≤ 1099511627776) && decide (l.vote ≥ -1) && decide (l.vote < size) && decide (l.base ≥ 0) && decide (l.base ≤ 1099511627776) && decide (l.baseTerm ≥ 0) && decide (l.baseTerm ≤ l.term) && decide ((l.items.length : Int) ≤ 256)
/-- Every item can be and lies between its neighbours, up to a top term. -/
def upB (top : Int) : Int → List Item → Bool
  | _, [] => true
  | w, x :: r => (decide (x.term ≥ w) && decide (x.term ≤ top) && validB x.e) && upB top x.term r
theorem up_snoc (top : Int) (xs : List Item) (x : Item) : ∀ w, upB top w (xs ++ [x]) = (upB top w xs && (decide (x.term ≥ endT w xs) && decide (x.term ≤ top) && validB x.e)) := by
  induction xs with
  | nil => intro w; show (_ && true) = (true && _); rw [Bool.and_true, Bool.true_and]; rfl
  | cons y r ih => intro w; show (_ && upB top y.term (r ++ [x])) = ((_ && upB top y.term r) && _); rw [ih]; exact (Bool.and_assoc _ _ _).symm
theorem up_chain (top : Int) (xs : List Item) : ∀ w, w ≤ top → upB top w xs = (chainB w xs && decide (endT w xs ≤ top)) := by
  induction xs with
  | nil => intro w h; simp [upB, chainB, endT, h]
  | cons x r ih =>
    intro w hw
    simp only [upB, chainB, endT]
    by_cases h1 : x.term ≥ w
    · by_cases h2 : x.term ≤ top
      · rw [ih _ h2]
        have h3 : ¬ x.term < w := by omega
        simp only [h1, h2, h3, decide_true, decide_false, Bool.true_and, Bool.false_or]
        cases validB x.e <;> rfl
      · have : ¬ (chainB x.term r = true ∧ endT x.term r ≤ top) := by
          rintro ⟨hc, he⟩
          have mono : ∀ (r : List Item) (w : Int), chainB w r = true → w ≤ endT w r := by
            intro r
            induction r with
            | nil => intro w _; exact Int.le_refl _
            | cons y r ih =>
              intro w h
              simp only [chainB, Bool.and_eq_true, Bool.not_eq_true', Bool.or_eq_false_iff, decide_eq_false_iff_not] at h
              have := ih y.term h.2
              simp only [endT]
              omega
          have := mono r _ hc
          omega
        simp only [h2, decide_false, Bool.and_false, Bool.false_and]
        symm
        rw [Bool.and_assoc]
        by_cases hc : chainB x.term r = true
        · have : ¬ endT x.term r ≤ top := fun h => this ⟨hc, h⟩
          simp [this]
        · simp [hc]
    · have h3 : x.term < w := by omega
      simp [h1, h3]
theorem okB_eq (l : Log) (size : Int) : (okB l size && upB l.term l.baseTerm l.items) = goodLogB l size := by
  by_cases h : l.baseTerm ≤ l.term
  · rw [up_chain _ _ _ h]
    unfold goodLogB okB badB
    simp only [Bool.not_or, ← decide_not, Int.not_lt, Int.not_le, gt_iff_lt, ge_iff_le, h, decide_true, Bool.and_true, Bool.and_assoc]
  · have h0 : okB l size = false := by unfold okB; simp [h]
    rw [h0]
    unfold goodLogB
    by_cases hc : chainB l.baseTerm l.items = true
    · have mono : ∀ (r : List Item) (w : Int), chainB w r = true → w ≤ endT w r := by
        intro r
        induction r with
        | nil => intro w _; exact Int.le_refl _
        | cons y r ih =>
          intro w h
          simp only [chainB, Bool.and_eq_true, Bool.not_eq_true', Bool.or_eq_false_iff, decide_eq_false_iff_not] at h
          have := ih y.term h.2
          simp only [endT]
          omega
      have := mono _ _ hc
      have h1 : ¬ endT l.baseTerm l.items ≤ l.term := by omega
      simp [h1]
    · simp [hc]
set_option maxRecDepth 100000 in
theorem refGoodLog_ok : SpecOk Try.prog 35 goodLogSpec := by
  refine spec_of_exec (fn := Try.f35) (c := Try.f35.body.getD .skip) (d := 1) (lv := ([0, 1, 2, 4, 5, 6, 8, 59, 60, 61, 62])) (DP := DPx T1 (CPs S2) ([0, 1, 2, 4, 5, 6, 8, 59, 60, 61, 62])) T1_ok S2_ok (fun B => DPx_ok T1_ok ord S2_ok B) goodLogSpec (by rfl) (by rfl) (by rfl) (fun _ => Nat.le_of_ble_eq_true (by kernel_rfl)) ?_
  rintro ⟨l, size, A, c, m⟩ ⟨hc, hn⟩
  obtain ⟨n, hln⟩ : ∃ n, n = l.items.length := ⟨_, rfl⟩
  conv => whnf
  refine ⟨Nat, fun i => i ≤ n, fun i => ⟨88, [⟨2, [], .p 0 0⟩, ⟨4, [], .b false⟩, ⟨5, [], .b (okB l size && upB l.term l.baseTerm (l.items.take i))⟩, ⟨6, [], .i .i64 (endT l.baseTerm (l.items.take i))⟩, ⟨59, [], .sl A n c⟩, ⟨60, [], .i .i64 n⟩, ⟨61, [], .i .i64 i⟩], [], [(0, .st 24 (logC l (.sl A n c)))], 1⟩, fun _ => m, fun i => n - i, ⟨0, rfl, Nat.zero_le _, ?_⟩, ?_⟩
  conv => whnf
  · conv => whnf
    repeat (first | exact trivial | (refine ⟨by first | exact ⟨rfl, rfl, rfl⟩ | rfl | exact ⟨rfl, rfl⟩ | exact ⟨rfl, fun _ _ => rfl⟩ | exact fun _ _ h => h | (intro _ _ h; cases h; done) | exact ⟨rfl, hln.symm, rfl⟩ | exact congrArg Int.ofNat hln.symm | (simp only [ifand]; show okB l size = (okB l size && true); rw [Bool.and_true]), ?_⟩; conv => whnf))
  · rintro i hi
    refine ⟨fun hlt => ?_, fun hge => ?_⟩
    conv => whnf
    · have hlt : i < n := by have h2 := of_decide_eq_true hlt; omega
      obtain ⟨x, hx⟩ : ∃ x, l.items[i]? = some x := ⟨_, List.getElem?_eq_getElem (by omega)⟩
      have hA := hc.some' (by omega)
      have hl' : endT l.baseTerm (l.items.take (i + 1)) = x.term := by rw [take_snoc hx, last_snoc]
      have hup : upB l.term l.baseTerm (l.items.take (i + 1)) = (upB l.term l.baseTerm (l.items.take i) && (decide (x.term ≥ endT l.baseTerm (l.items.take i)) && decide (x.term ≤ l.term) && validB x.e)) := by rw [take_snoc hx, up_snoc]
      refine ⟨⟨Int.natCast_nonneg _, by show (i : Int) < (n : Int); omega, hA⟩, ?_⟩
      conv => whnf
      refine ⟨.g (itemC x), ⟨rfl, rfl, hc.rd (o := i * 6 + 0) (by show (i : Int).toNat * 6 = _; rw [Int.toNat_natCast, Nat.add_zero]) rfl (by show 0 < 6; decide) (by rw [itemsV_at hx 0 6 (by omega)]; rfl)⟩, ?_⟩
      conv => whnf
      refine ⟨fun hb => ?_, fun hb => ?_⟩
      conv => whnf
      · refine ⟨x.e, trivial, ?_⟩
        conv => whnf
        repeat (first | exact trivial | (refine ⟨by first | exact ⟨rfl, rfl, rfl⟩ | rfl | exact ⟨rfl, rfl⟩ | exact ⟨rfl, fun _ _ => rfl⟩ | exact fun _ _ h => h | (intro _ _ h; cases h; done), ?_⟩; conv => whnf))
        intro _ _
        conv => whnf
        have hr : validB x.e = (okB l size && upB l.term l.baseTerm (l.items.take (i + 1))) := by
          simp only [ifand] at hb
          rw [hup, ← Bool.and_assoc, ← Bool.and_assoc, ← Bool.and_assoc, hb, Bool.true_and]
        refine ⟨i + 1, rfl, ⟨hlt, by show n - (i + 1) < n - i; omega⟩, ?_⟩
        conv => whnf
        repeat (first | exact trivial | (refine ⟨by first | exact ⟨rfl, rfl, rfl⟩ | rfl | exact ⟨rfl, rfl⟩ | exact ⟨rfl, fun _ _ => rfl⟩ | exact fun _ _ h => h | (intro _ _ h; cases h; done) | exact hr | exact hl'.symm | exact hl' | exact wrapi_succ (Nat.lt_of_lt_of_le hlt (by omega)) | exact (wrapi_succ (Nat.lt_of_lt_of_le hlt (by omega))).symm, ?_⟩; conv => whnf))
      · conv => whnf
        have hr : false = (okB l size && upB l.term l.baseTerm (l.items.take (i + 1))) := by
          simp only [ifand] at hb
          rw [hup, ← Bool.and_assoc, ← Bool.and_assoc, ← Bool.and_assoc, hb, Bool.false_and]
        refine ⟨i + 1, rfl, ⟨hlt, by show n - (i + 1) < n - i; omega⟩, ?_⟩
        conv => whnf
        repeat (first | exact trivial | (refine ⟨by first | exact ⟨rfl, rfl, rfl⟩ | rfl | exact ⟨rfl, rfl⟩ | exact ⟨rfl, fun _ _ => rfl⟩ | exact fun _ _ h => h | (intro _ _ h; cases h; done) | exact hr.symm | exact hr | exact hl'.symm | exact hl' | exact wrapi_succ (Nat.lt_of_lt_of_le hlt (by omega)) | exact (wrapi_succ (Nat.lt_of_lt_of_le hlt (by omega))).symm, ?_⟩; conv => whnf))
    · have hge : i = n := by have h2 := of_decide_eq_false hge; omega
      subst hge
      conv => whnf
      have hr : (okB l size && upB l.term l.baseTerm (l.items.take i)) = goodLogB l size := by rw [hln, List.take_length]; exact okB_eq l size
      refine ⟨(), trivial, ?_⟩
      conv => whnf
      repeat (first | exact trivial | exact fun _ _ h => h | (refine ⟨by first | exact ⟨rfl, rfl, rfl⟩ | rfl | exact ⟨rfl, rfl⟩ | exact ⟨rfl, fun _ _ => rfl⟩ | exact fun _ _ h => h | (intro _ _ h; cases h; done) | exact hr, ?_⟩; conv => whnf))
end Go.Proofs.Ytjpjiniclibgkaa.Sx

namespace Go.Proofs.Ytjpjiniclibgkaa.Sx
open Go

def bad1 (n : Node) : Bool := decide (n.size < 1) || decide (n.size > 7) || decide (n.me < 0) || decide (n.me ≥ n.size)
def bad2 (n : Node) (last : Int) : Bool := decide (n.role < 0) || decide (n.role > 2) || decide (n.lead < -1) || decide (n.lead ≥ n.size) || decide (n.commit < n.log.base) || decide (n.commit > last) || decide (n.votes < 0) || decide (n.votes ≥ 2 ^ n.size.toNat)
def rowBad (n : Node) (last : Int) (i : Nat) : Bool := decide (n.next i < 0) || decide (n.next i > last + 1) || decide (n.mat i < 0) || decide (n.mat i > last)
def goodB (n : Node) : Bool := !(bad1 n || !(goodLogB n.log n.size)) && (!(bad2 n (lastN n.log).1) && (List.range n.size.toNat).all fun i => !(rowBad n (lastN n.log).1 i))
theorem size_of {n : Node} (h : bad1 n = false) : 1 ≤ n.size ∧ n.size ≤ 7 ∧ 0 ≤ n.me ∧ n.me < n.size := by
  unfold bad1 at h
  simp only [Bool.or_eq_false_iff, decide_eq_false_iff_not] at h
  omega
theorem pow_of {s : Int} (h : 1 ≤ s ∧ s ≤ 7) : IntKind.i64.wrap (1 * 2 ^ (min s.toNat IntKind.i64.bits)) = 2 ^ s.toNat := by
  have : s = 1 ∨ s = 2 ∨ s = 3 ∨ s = 4 ∨ s = 5 ∨ s = 6 ∨ s = 7 := by omega
  rcases this with rfl | rfl | rfl | rfl | rfl | rfl | rfl <;> rfl
theorem last_of {l : Log} {size : Int} (h : goodLogB l size = true) : 0 ≤ l.base ∧ (lastN l).1 = l.base + l.items.length ∧ l.base + l.items.length ≤ 1099511627776 + 256 ∧ l.items.length ≤ 256 := by
  unfold goodLogB badB at h
  simp only [Bool.and_eq_true, Bool.not_eq_true', Bool.or_eq_false_iff, decide_eq_false_iff_not] at h
  obtain ⟨⟨⟨⟨⟨⟨⟨⟨⟨_, _⟩, _⟩, _⟩, h5⟩, h6⟩, _⟩, h8⟩, _⟩, _⟩ := h
  refine ⟨by omega, ?_, by omega, by omega⟩
  cases hz : l.items.length with
  | zero => rw [lastN_zero hz]; simp
  | succ k =>
    have hx : l.items[l.items.length - 1]? = some (l.items[l.items.length - 1]'(by omega)) := List.getElem?_eq_getElem _
    rw [lastN_pos hx, wrapi ⟨by omega, by omega⟩]; show l.base + (l.items.length : Int) = _; rw [hz]
theorem all_snoc (f : Nat → Bool) (i : Nat) : (List.range (i + 1)).all f = ((List.range i).all f && f i) := by
  rw [List.range_succ, List.all_append]; simp
theorem all_bad {f : Nat → Bool} {i k : Nat} (h : i < k) (hf : f i = false) : (List.range k).all f = false := by
  cases hc : (List.range k).all f with
  | false => rfl
  | true =>
    have := List.all_eq_true.1 hc i (List.mem_range.2 h)
    rw [hf] at this; cases this
def goodSpec : Spec where
  A := NodeG
  R := fun ⟨n, A, _, m⟩ => Cells m A (itemsV n.log.items) ∧ n.log.items.length < 2 ^ 62
  J := fun ⟨_, _, _, m⟩ => m
  args := fun ⟨n, A, c, _⟩ => [.g (nodeC n (.sl A n.log.items.length c))]
  h := fun _ => []
  nx := 0
  Bb := Unit
  C := fun _ _ => True
  out := fun ⟨n, _, _, _⟩ _ => .ret (.b (goodB n))
  h2 := fun _ _ => []
  nx2 := 0
  md := 1
def S3 : List (Nat × Spec) := (34, goodLogSpec) :: (35, goodLogSpec) :: S2
theorem S3_ok : CPOk Try.prog (CPs S3) := CPs_ok fun f s h => by
  simp only [S3, S2, S1, findS] at h
  repeat' split at h
  all_goals first | (rename_i hb; obtain rfl := beq_eq hb; cases h; first | exact goodLog_ok | exact refGoodLog_ok | exact copied_ok | exact refCopy_ok | exact clone_ok | exact last_ok | exact refLast_ok | exact term_ok | exact refTerm_ok | exact valid_ok | exact refValid_ok) | cases h
set_option maxRecDepth 100000 in
theorem good_ok : SpecOk Try.prog 16 goodSpec := by
  refine spec_of_exec (fn := Try.f16) (c := Try.f16.body.getD .skip) (d := 1) (lv := ([0, 1, 2, 3, 5, 33, 86, 88, 89, 90, 120])) (DP := DPx T1 (CPs S3) ([0, 1, 2, 3, 5, 33, 86, 88, 89, 90, 120])) T1_ok S3_ok (fun B => DPx_ok T1_ok ord S3_ok B) goodSpec (by rfl) (by rfl) (by rfl) (fun _ => Nat.le_of_ble_eq_true (by kernel_rfl)) ?_
  rintro ⟨n, A, c, m⟩ ⟨hc, hn⟩
  refine ⟨fun hb => ?_, fun hb => ?_⟩
  conv => whnf
  · have hbad : bad1 n = true := by rw [← hb]; simp only [ifor]; rfl
    have hr : goodB n = false := by unfold goodB; rw [hbad]; rfl
    refine ⟨fun _ => ?_, fun h => (by cases h)⟩
    conv => whnf
    refine ⟨(), trivial, ?_⟩
    conv => whnf
    repeat (first | exact trivial | exact fun _ _ h => h | (refine ⟨by first | exact ⟨rfl, rfl, rfl⟩ | rfl | exact ⟨rfl, rfl⟩ | exact ⟨rfl, fun _ _ => rfl⟩ | exact fun _ _ h => h | (intro _ _ h; cases h; done) | exact hr.symm, ?_⟩; conv => whnf))
  · have hb1 : bad1 n = false := by rw [← hb]; simp only [ifor]; rfl
    obtain ⟨hs1, hs2, hm1, hm2⟩ := size_of hb1
    refine ⟨⟨n.log, n.size, A, c, m⟩, ⟨hc, hn⟩, ?_⟩
    conv => whnf
    repeat (first | exact trivial | (refine ⟨by first | exact ⟨rfl, rfl, rfl⟩ | rfl | exact ⟨rfl, rfl⟩ | exact ⟨rfl, fun _ _ => rfl⟩ | exact fun _ _ h => h | (intro _ _ h; cases h; done), ?_⟩; conv => whnf))
    intro _ _
    refine ⟨fun hg => ?_, fun hg => ?_⟩
    conv => whnf
    · have hg : goodLogB n.log n.size = false := by simpa using hg
      have hr : goodB n = false := by unfold goodB; rw [hg]; simp
      refine ⟨(), trivial, ?_⟩
      conv => whnf
      repeat (first | exact trivial | exact fun _ _ h => h | (refine ⟨by first | exact ⟨rfl, rfl, rfl⟩ | rfl | exact ⟨rfl, rfl⟩ | exact ⟨rfl, fun _ _ => rfl⟩ | exact fun _ _ h => h | (intro _ _ h; cases h; done) | exact hr.symm, ?_⟩; conv => whnf))
    · have hg : goodLogB n.log n.size = true := by simpa using hg
      obtain ⟨hl1, hl2, hl3, hl4⟩ := last_of hg
      refine ⟨⟨n.log, A, c, m⟩, ⟨hc, hn⟩, ?_⟩
      conv => whnf
      repeat (first | exact trivial | (refine ⟨by first | exact ⟨rfl, rfl, rfl⟩ | rfl | exact ⟨rfl, rfl⟩ | exact ⟨rfl, fun _ _ => rfl⟩ | exact fun _ _ h => h | (intro _ _ h; cases h; done), ?_⟩; conv => whnf))
      intro _ _
      refine Or.inl ?_
      conv => whnf
      refine ⟨by kernel_rfl, ?_⟩
      conv => whnf
      refine ⟨fun _ => (by omega), ?_⟩
      conv => whnf
      have hp := pow_of ⟨hs1, hs2⟩
      rw [hp]
      refine ⟨fun hb2 => ?_, fun hb2 => ?_⟩
      conv => whnf
      · have hb2 : bad2 n (lastN n.log).1 = true := by rw [← hb2]; simp only [ifor]; rfl
        have hr : goodB n = false := by unfold goodB; rw [hb2]; simp
        refine ⟨(), trivial, ?_⟩
        conv => whnf
        repeat (first | exact trivial | exact fun _ _ h => h | (refine ⟨by first | exact ⟨rfl, rfl, rfl⟩ | rfl | exact ⟨rfl, rfl⟩ | exact ⟨rfl, fun _ _ => rfl⟩ | exact fun _ _ h => h | (intro _ _ h; cases h; done) | exact hr.symm, ?_⟩; conv => whnf))
      · have hb2 : bad2 n (lastN n.log).1 = false := by rw [← hb2]; simp only [ifor]; rfl
        have hr : goodB n = (List.range n.size.toNat).all fun i => !(rowBad n (lastN n.log).1 i) := by unfold goodB; rw [hb1, hg, hb2]; rfl
        generalize hlast : (lastN n.log).1 = last at *
        refine ⟨Nat, fun i => (i : Int) ≤ n.size ∧ ((List.range i).all fun i => !(rowBad n last i)) = true, fun i => ⟨122, [⟨1, [], .p 0 0⟩, ⟨2, [], .b false⟩, ⟨3, [], .i .i64 last⟩, ⟨88, [], .i .i64 n.size⟩, ⟨89, [], .i .i64 i⟩], [], [(0, .st 27 (nodeC n (.sl A n.log.items.length c)))], 1⟩, fun _ => m, fun i => n.size.toNat - i, ⟨0, rfl, ⟨by omega, rfl⟩, ?_⟩, ?_⟩
        conv => whnf
        · conv => whnf
          repeat (first | exact trivial | (refine ⟨by first | exact ⟨rfl, rfl, rfl⟩ | rfl | exact ⟨rfl, rfl⟩ | exact ⟨rfl, fun _ _ => rfl⟩ | exact fun _ _ h => h | (intro _ _ h; cases h; done), ?_⟩; conv => whnf))
        · rintro i ⟨hi, hall⟩
          refine ⟨fun hlt => ?_, fun hge => ?_⟩
          conv => whnf
          · have hlt : (i : Int) < n.size := of_decide_eq_true hlt
            have hj : (0 : Int) ≤ (i : Int) ∧ (i : Int) < ((7 : Nat) : Int) := ⟨Int.natCast_nonneg _, by show (i : Int) < 7; omega⟩
            have hk : (i : Int).toNat < 7 := by omega
            have hw : IntKind.i64.wrap (last + 1) = last + 1 := by rw [wrapi ⟨by omega, by omega⟩]
            repeat (first | exact trivial | (refine ⟨by first | exact ⟨rfl, rfl, rfl⟩ | rfl | exact ⟨rfl, rfl⟩ | exact ⟨rfl, fun _ _ => rfl⟩ | exact fun _ _ h => h | (intro _ _ h; cases h; done) | exact hj | exact fun _ => hj | exact hk | exact fun _ => hk, ?_⟩; conv => whnf))
            refine ⟨fun hb => ?_, fun hb => ?_⟩
            · have hb3 : rowBad n last i = true := by rw [← hb]; simp only [ifor, hw]; rfl
              have hr : goodB n = false := by rw [hr]; exact all_bad (i := i) (by omega) (by rw [hb3]; rfl)
              refine ⟨(), trivial, ?_⟩
              conv => whnf
              repeat (first | exact trivial | exact fun _ _ h => h | (refine ⟨by first | exact ⟨rfl, rfl, rfl⟩ | rfl | exact ⟨rfl, rfl⟩ | exact ⟨rfl, fun _ _ => rfl⟩ | exact fun _ _ h => h | (intro _ _ h; cases h; done) | exact hr.symm, ?_⟩; conv => whnf))
            · have hb3 : rowBad n last i = false := by rw [← hb]; simp only [ifor, hw]; rfl
              have hall' : ((List.range (i + 1)).all fun i => !(rowBad n last i)) = true := by rw [all_snoc, hall, hb3]; rfl
              refine ⟨i + 1, rfl, ⟨⟨by omega, hall'⟩, by show n.size.toNat - (i + 1) < n.size.toNat - i; omega⟩, ?_⟩
              conv => whnf
              repeat (first | exact trivial | (refine ⟨by first | exact ⟨rfl, rfl, rfl⟩ | rfl | exact ⟨rfl, rfl⟩ | exact ⟨rfl, fun _ _ => rfl⟩ | exact fun _ _ h => h | (intro _ _ h; cases h; done) | exact wrapi_succ (by omega), ?_⟩; conv => whnf))
          · have hge : ¬ (i : Int) < n.size := of_decide_eq_false hge
            have hin : n.size.toNat = i := by omega
            rw [hin, hall] at hr
            refine ⟨(), trivial, ?_⟩
            conv => whnf
            repeat (first | exact trivial | exact fun _ _ h => h | (refine ⟨by first | exact ⟨rfl, rfl, rfl⟩ | rfl | exact ⟨rfl, rfl⟩ | exact ⟨rfl, fun _ _ => rfl⟩ | exact fun _ _ h => h | (intro _ _ h; cases h; done) | exact hr.symm, ?_⟩; conv => whnf))
end Go.Proofs.Ytjpjiniclibgkaa.Sx

namespace Go.Proofs.Ytjpjiniclibgkaa.Sx
open Go

def ok2 (n : Node) (last : Int) : Bool := decide (n.role ≥ 0) && decide (n.role ≤ 2) && decide (n.lead ≥ -1) && decide (n.lead < n.size) && decide (n.commit ≥ n.log.base) && decide (n.commit ≤ last)
theorem ok2_eq (n : Node) (last : Int) : (ok2 n last && decide (n.votes ≥ 0) && decide (n.votes < 2 ^ n.size.toNat)) = !(bad2 n last) := by
  unfold ok2 bad2
  simp only [Bool.not_or, ← decide_not, Int.not_lt, Int.not_le, gt_iff_lt, ge_iff_le]
def rowOk (n : Node) (last : Int) (i : Nat) : Bool := decide (n.next i ≥ 0) && decide (n.next i ≤ last + 1) && decide (n.mat i ≥ 0) && decide (n.mat i ≤ last)
theorem rowOk_eq (n : Node) (last : Int) (i : Nat) : rowOk n last i = !(rowBad n last i) := by
  unfold rowOk rowBad
  simp only [Bool.not_or, ← decide_not, Int.not_lt, gt_iff_lt, ge_iff_le]
theorem pow_step {i : Nat} (h : i < 7) : IntKind.i64.wrap ((2 : Int) ^ i * 2) = 2 ^ (i + 1) := by
  have : i = 0 ∨ i = 1 ∨ i = 2 ∨ i = 3 ∨ i = 4 ∨ i = 5 ∨ i = 6 := by omega
  rcases this with rfl | rfl | rfl | rfl | rfl | rfl | rfl <;> rfl
set_option maxRecDepth 100000 in
theorem refGood_ok : SpecOk Try.prog 17 goodSpec := by
  refine spec_of_exec (fn := Try.f17) (c := Try.f17.body.getD .skip) (d := 1) (lv := ([0, 1, 2, 3, 5, 6, 7, 35, 79])) (DP := DPx T1 (CPs S3) ([0, 1, 2, 3, 5, 6, 7, 35, 79])) T1_ok S3_ok (fun B => DPx_ok T1_ok ord S3_ok B) goodSpec (by rfl) (by rfl) (by rfl) (fun _ => Nat.le_of_ble_eq_true (by kernel_rfl)) ?_
  rintro ⟨n, A, c, m⟩ ⟨hc, hn⟩
  refine ⟨fun hb => ?_, fun hb => ?_⟩
  conv => whnf
  · have hbad : bad1 n = true := by rw [← hb]; simp only [ifor]; rfl
    have hr : goodB n = false := by unfold goodB; rw [hbad]; rfl
    refine ⟨fun _ => ?_, fun h => (by cases h)⟩
    conv => whnf
    refine ⟨(), trivial, ?_⟩
    conv => whnf
    repeat (first | exact trivial | exact fun _ _ h => h | (refine ⟨by first | exact ⟨rfl, rfl, rfl⟩ | rfl | exact ⟨rfl, rfl⟩ | exact ⟨rfl, fun _ _ => rfl⟩ | exact fun _ _ h => h | (intro _ _ h; cases h; done) | exact hr.symm, ?_⟩; conv => whnf))
  · have hb1 : bad1 n = false := by rw [← hb]; simp only [ifor]; rfl
    obtain ⟨hs1, hs2, hm1, hm2⟩ := size_of hb1
    refine ⟨⟨n.log, n.size, A, c, m⟩, ⟨hc, hn⟩, ?_⟩
    conv => whnf
    repeat (first | exact trivial | (refine ⟨by first | exact ⟨rfl, rfl, rfl⟩ | rfl | exact ⟨rfl, rfl⟩ | exact ⟨rfl, fun _ _ => rfl⟩ | exact fun _ _ h => h | (intro _ _ h; cases h; done), ?_⟩; conv => whnf))
    intro _ _
    refine ⟨fun hg => ?_, fun hg => ?_⟩
    conv => whnf
    · have hg : goodLogB n.log n.size = false := by simpa using hg
      have hr : goodB n = false := by unfold goodB; rw [hg]; simp
      refine ⟨(), trivial, ?_⟩
      conv => whnf
      repeat (first | exact trivial | exact fun _ _ h => h | (refine ⟨by first | exact ⟨rfl, rfl, rfl⟩ | rfl | exact ⟨rfl, rfl⟩ | exact ⟨rfl, fun _ _ => rfl⟩ | exact fun _ _ h => h | (intro _ _ h; cases h; done) | exact hr.symm, ?_⟩; conv => whnf))
    · have hg : goodLogB n.log n.size = true := by simpa using hg
      obtain ⟨hl1, hl2, hl3, hl4⟩ := last_of hg
      refine ⟨⟨n.log, A, c, m⟩, ⟨hc, hn⟩, ?_⟩
      conv => whnf
      repeat (first | exact trivial | (refine ⟨by first | exact ⟨rfl, rfl, rfl⟩ | rfl | exact ⟨rfl, rfl⟩ | exact ⟨rfl, fun _ _ => rfl⟩ | exact fun _ _ h => h | (intro _ _ h; cases h; done), ?_⟩; conv => whnf))
      intro _ _
      conv => whnf
      have hr : goodB n = ((ok2 n (lastN n.log).1 && (List.range n.size.toNat).all fun i => rowOk n (lastN n.log).1 i) && decide (n.votes ≥ 0) && decide (n.votes < 2 ^ n.size.toNat)) := by
        unfold goodB; rw [hb1, hg, ← ok2_eq]
        simp only [rowOk_eq]
        generalize ok2 n (lastN n.log).1 = a
        generalize decide (n.votes ≥ 0) = b
        generalize decide (n.votes < 2 ^ n.size.toNat) = d
        generalize List.all _ _ = e
        cases a <;> cases b <;> cases d <;> cases e <;> rfl
      generalize hlast : (lastN n.log).1 = last at *
      refine ⟨Nat, fun i => (i : Int) ≤ n.size, fun i => ⟨128, [⟨1, [], .p 0 0⟩, ⟨2, [], .b false⟩, ⟨3, [], .i .i64 last⟩, ⟨5, [], .i .i64 (2 ^ i)⟩, ⟨6, [], .b (ok2 n last && (List.range i).all fun i => rowOk n last i)⟩, ⟨7, [], .i .i64 i⟩], [], [(0, .st 27 (nodeC n (.sl A n.log.items.length c)))], 1⟩, fun _ => m, fun i => n.size.toNat - i, ⟨0, rfl, by show (0 : Int) ≤ _; omega, ?_⟩, ?_⟩
      conv => whnf
      · conv => whnf
        repeat (first | exact trivial | (refine ⟨by first | exact ⟨rfl, rfl, rfl⟩ | rfl | exact ⟨rfl, rfl⟩ | exact ⟨rfl, fun _ _ => rfl⟩ | exact fun _ _ h => h | (intro _ _ h; cases h; done) | (simp only [ifand]; show ok2 n last = (ok2 n last && true); rw [Bool.and_true]), ?_⟩; conv => whnf))
      · rintro i hi
        refine ⟨fun hlt => ?_, fun hge => ?_⟩
        conv => whnf
        · have hlt : (i : Int) < n.size := of_decide_eq_true hlt
          have hj : (0 : Int) ≤ (i : Int) ∧ (i : Int) < ((7 : Nat) : Int) := ⟨Int.natCast_nonneg _, by show (i : Int) < 7; omega⟩
          have hk : (i : Int).toNat < 7 := by omega
          have hw : IntKind.i64.wrap (last + 1) = last + 1 := by rw [wrapi ⟨by omega, by omega⟩]
          repeat (first | exact trivial | (refine ⟨by first | exact ⟨rfl, rfl, rfl⟩ | rfl | exact ⟨rfl, rfl⟩ | exact ⟨rfl, fun _ _ => rfl⟩ | exact fun _ _ h => h | (intro _ _ h; cases h; done) | exact fun _ => hj | exact fun _ => hk, ?_⟩; conv => whnf))
          have hal : (ok2 n last && (List.range (i + 1)).all fun i => rowOk n last i) = (ok2 n last && ((List.range i).all fun i => rowOk n last i) && rowOk n last i) := by rw [all_snoc, Bool.and_assoc]
          refine ⟨i + 1, rfl, ⟨by show ((i + 1 : Nat) : Int) ≤ n.size; omega, by show n.size.toNat - (i + 1) < n.size.toNat - i; omega⟩, ?_⟩
          conv => whnf
          repeat (first | exact trivial | (refine ⟨by first | exact ⟨rfl, rfl, rfl⟩ | rfl | exact ⟨rfl, rfl⟩ | exact ⟨rfl, fun _ _ => rfl⟩ | exact fun _ _ h => h | (intro _ _ h; cases h; done) | exact wrapi_succ (by omega) | exact pow_step (by omega) | (rw [hal]; simp only [ifand, hw]; unfold rowOk; simp only [Bool.and_assoc]; rfl), ?_⟩; conv => whnf))
        · have hge : ¬ (i : Int) < n.size := of_decide_eq_false hge
          have hin : n.size.toNat = i := by omega
          rw [hin] at hr
          refine ⟨(), trivial, ?_⟩
          conv => whnf
          repeat (first | exact trivial | exact fun _ _ h => h | (refine ⟨by first | exact ⟨rfl, rfl, rfl⟩ | rfl | exact ⟨rfl, rfl⟩ | exact ⟨rfl, fun _ _ => rfl⟩ | exact fun _ _ h => h | (intro _ _ h; cases h; done) | (rw [hr]; simp only [ifand]), ?_⟩; conv => whnf))
end Go.Proofs.Ytjpjiniclibgkaa.Sx

namespace Go.Proofs.Ytjpjiniclibgkaa.Sx
open Go

def badM (n : Node) (m : Msg) : Bool := (m.to != n.me) || decide (m.frm < 0) || decide (m.frm ≥ n.size) || (m.frm == n.me) || decide (m.kind < 1) || decide (m.kind > 5) || decide (m.term < 0) || decide (m.term > 1099511627776) || decide (m.last < 0) || decide (m.last > 1099511627776) || decide (m.lastTerm < 0) || decide (m.lastTerm > m.term) || decide (m.commit < 0) || decide (m.commit > 1099511627776) || decide ((m.items.length : Int) > 16)
def soundB (n : Node) (m : Msg) : Bool := !(badM n m) && upB m.term m.lastTerm m.items
theorem up_take (top : Int) (xs : List Item) : ∀ (w : Int) (i : Nat), upB top w xs = true → upB top w (xs.take i) = true := by
  induction xs with
  | nil => intro w i h; simp [upB]
  | cons x r ih =>
    intro w i h
    cases i with
    | zero => simp [upB]
    | succ i =>
      simp only [List.take_succ_cons, upB, Bool.and_eq_true] at h ⊢
      exact ⟨h.1, ih _ _ h.2⟩
def xBad (top was : Int) (x : Item) : Bool := decide (x.term < was) || decide (x.term > top) || !(validB x.e)
theorem xBad_eq (top was : Int) (x : Item) : (decide (x.term ≥ was) && decide (x.term ≤ top) && validB x.e) = !(xBad top was x) := by
  unfold xBad
  simp only [Bool.not_or, ← decide_not, Int.not_lt, gt_iff_lt, ge_iff_le, Bool.not_not]
theorem up_bad {top : Int} {xs : List Item} {i : Nat} {x : Item} {w : Int} (h : xs[i]? = some x) (hb : xBad top (endT w (xs.take i)) x = true) : upB top w xs = false := by
  cases hc : upB top w xs with
  | false => rfl
  | true =>
    have := up_take top xs w (i + 1) hc
    rw [take_snoc h, up_snoc, xBad_eq, hb] at this
    simp at this
structure SoundG where
  n : Node
  A : Option Addr
  c : Nat
  k : Msg
  D : Option Addr
  e : Nat
  m : Mem
def soundSpec : Spec where
  A := SoundG
  R := fun ⟨_, _, _, k, D, _, m⟩ => Cells m D (itemsV k.items) ∧ k.items.length < 2 ^ 62
  J := fun ⟨_, _, _, _, _, _, m⟩ => m
  args := fun ⟨n, A, c, k, D, e, _⟩ => [.g (nodeC n (.sl A n.log.items.length c)), .g (msgC k (.sl D k.items.length e))]
  h := fun _ => []
  nx := 0
  Bb := Unit
  C := fun _ _ => True
  out := fun ⟨n, _, _, k, _, _, _⟩ _ => .ret (.b (soundB n k))
  h2 := fun _ _ => []
  nx2 := 0
  md := 1
set_option maxRecDepth 100000 in
theorem sound_ok : SpecOk Try.prog 18 soundSpec := by
  refine spec_of_exec (fn := Try.f18) (c := Try.f18.body.getD .skip) (d := 1) (lv := ([0, 1, 2, 3, 4, 5, 7, 89, 93, 94, 95, 96, 115])) (DP := DPx T1 (CPs S3) ([0, 1, 2, 3, 4, 5, 7, 89, 93, 94, 95, 96, 115])) T1_ok S3_ok (fun B => DPx_ok T1_ok ord S3_ok B) soundSpec (by rfl) (by rfl) (by rfl) (fun _ => Nat.le_of_ble_eq_true (by kernel_rfl)) ?_
  rintro ⟨n, A, c, k, D, e, m⟩ ⟨hc, hn⟩
  obtain ⟨s, hs⟩ : ∃ s, s = k.items.length := ⟨_, rfl⟩
  refine ⟨fun hb => ?_, fun hb => ?_⟩
  conv => whnf
  · have hbad : badM n k = true := by rw [← hb]; simp only [ifor]; rfl
    have hr : soundB n k = false := by unfold soundB; rw [hbad]; rfl
    refine ⟨(), trivial, ?_⟩
    conv => whnf
    repeat (first | exact trivial | exact fun _ _ h => h | (refine ⟨by first | exact ⟨rfl, rfl, rfl⟩ | rfl | exact ⟨rfl, rfl⟩ | exact ⟨rfl, fun _ _ => rfl⟩ | exact fun _ _ h => h | (intro _ _ h; cases h; done) | exact hr.symm, ?_⟩; conv => whnf))
  · have hb1 : badM n k = false := by rw [← hb]; simp only [ifor]; rfl
    have hr : soundB n k = upB k.term k.lastTerm k.items := by unfold soundB; rw [hb1]; rfl
    refine ⟨Nat, fun i => i ≤ s ∧ upB k.term k.lastTerm (k.items.take i) = true, fun i => ⟨119, [⟨2, [], .p 0 0⟩, ⟨3, [], .p 1 0⟩, ⟨4, [], .b false⟩, ⟨5, [], .i .i64 (endT k.lastTerm (k.items.take i))⟩, ⟨93, [], .sl D s e⟩, ⟨94, [], .i .i64 s⟩, ⟨95, [], .i .i64 i⟩], [], [(1, .st 29 (msgC k (.sl D s e))), (0, .st 27 (nodeC n (.sl A n.log.items.length c)))], 2⟩, fun _ => m, fun i => s - i, ⟨0, rfl, ⟨Nat.zero_le _, rfl⟩, ?_⟩, ?_⟩
    conv => whnf
    · conv => whnf
      repeat (first | exact trivial | (refine ⟨by first | exact ⟨rfl, rfl, rfl⟩ | rfl | exact ⟨rfl, rfl⟩ | exact ⟨rfl, fun _ _ => rfl⟩ | exact fun _ _ h => h | (intro _ _ h; cases h; done) | exact ⟨rfl, hs.symm, rfl⟩ | exact congrArg Int.ofNat hs.symm, ?_⟩; conv => whnf))
    · rintro i ⟨hi, hup⟩
      refine ⟨fun hlt => ?_, fun hge => ?_⟩
      conv => whnf
      · have hlt : i < s := by have h2 := of_decide_eq_true hlt; omega
        obtain ⟨x, hx⟩ : ∃ x, k.items[i]? = some x := ⟨_, List.getElem?_eq_getElem (by omega)⟩
        have hA := hc.some' (by omega)
        have hl' : endT k.lastTerm (k.items.take (i + 1)) = x.term := by rw [take_snoc hx, last_snoc]
        refine ⟨⟨Int.natCast_nonneg _, by show (i : Int) < (s : Int); omega, hA⟩, ?_⟩
        conv => whnf
        refine ⟨.g (itemC x), ⟨rfl, rfl, hc.rd (o := i * 6 + 0) (by show (i : Int).toNat * 6 = _; rw [Int.toNat_natCast, Nat.add_zero]) rfl (by show 0 < 6; decide) (by rw [itemsV_at hx 0 6 (by omega)]; rfl)⟩, ?_⟩
        conv => whnf
        refine ⟨fun hb => ?_, fun hb => ?_⟩
        conv => whnf
        · have hx1 : xBad k.term (endT k.lastTerm (k.items.take i)) x = true := by unfold xBad; simp only [ifor] at hb; rw [hb]; rfl
          refine ⟨fun _ => ?_, fun h => (by cases h)⟩
          conv => whnf
          have hr : soundB n k = false := by rw [hr]; exact up_bad hx hx1
          refine ⟨(), trivial, ?_⟩
          conv => whnf
          repeat (first | exact trivial | exact fun _ _ h => h | (refine ⟨by first | exact ⟨rfl, rfl, rfl⟩ | rfl | exact ⟨rfl, rfl⟩ | exact ⟨rfl, fun _ _ => rfl⟩ | exact fun _ _ h => h | (intro _ _ h; cases h; done) | exact hr.symm, ?_⟩; conv => whnf))
        · refine ⟨x.e, trivial, ?_⟩
          conv => whnf
          repeat (first | exact trivial | (refine ⟨by first | exact ⟨rfl, rfl, rfl⟩ | rfl | exact ⟨rfl, rfl⟩ | exact ⟨rfl, fun _ _ => rfl⟩ | exact fun _ _ h => h | (intro _ _ h; cases h; done), ?_⟩; conv => whnf))
          intro _ _
          refine ⟨fun hb2 => ?_, fun hb2 => ?_⟩
          conv => whnf
          · have hx1 : xBad k.term (endT k.lastTerm (k.items.take i)) x = true := by unfold xBad; rw [hb2]; simp
            have hr : soundB n k = false := by rw [hr]; exact up_bad hx hx1
            refine ⟨(), trivial, ?_⟩
            conv => whnf
            repeat (first | exact trivial | exact fun _ _ h => h | (refine ⟨by first | exact ⟨rfl, rfl, rfl⟩ | rfl | exact ⟨rfl, rfl⟩ | exact ⟨rfl, fun _ _ => rfl⟩ | exact fun _ _ h => h | (intro _ _ h; cases h; done) | exact hr.symm, ?_⟩; conv => whnf))
          · have hx1 : xBad k.term (endT k.lastTerm (k.items.take i)) x = false := by unfold xBad; simp only [ifor] at hb; rw [hb, hb2]; rfl
            have hup' : upB k.term k.lastTerm (k.items.take (i + 1)) = true := by rw [take_snoc hx, up_snoc, xBad_eq, hup, hx1]; rfl
            refine ⟨i + 1, rfl, ⟨⟨hlt, hup'⟩, by show s - (i + 1) < s - i; omega⟩, ?_⟩
            conv => whnf
            repeat (first | exact trivial | (refine ⟨by first | exact ⟨rfl, rfl, rfl⟩ | rfl | exact ⟨rfl, rfl⟩ | exact ⟨rfl, fun _ _ => rfl⟩ | exact fun _ _ h => h | (intro _ _ h; cases h; done) | exact hl'.symm | exact hl' | exact wrapi_succ (Nat.lt_of_lt_of_le hlt (by omega)), ?_⟩; conv => whnf))
      · have hge : i = s := by have h2 := of_decide_eq_false hge; omega
        rw [hge, hs, List.take_length] at hup
        rw [hup] at hr
        refine ⟨(), trivial, ?_⟩
        conv => whnf
        repeat (first | exact trivial | exact fun _ _ h => h | (refine ⟨by first | exact ⟨rfl, rfl, rfl⟩ | rfl | exact ⟨rfl, rfl⟩ | exact ⟨rfl, fun _ _ => rfl⟩ | exact fun _ _ h => h | (intro _ _ h; cases h; done) | exact hr.symm, ?_⟩; conv => whnf))
/-! ### the document's -/
def okM (n : Node) (m : Msg) : Bool := (m.to == n.me) && decide (m.frm ≥ 0) && decide (m.frm < n.size) && (m.frm != m.to) && decide (m.kind ≥ 1) && decide (m.kind ≤ 5)
def numM (m : Msg) : Nat → Int := fun i => match i with
  | 0 => m.term
  | 1 => m.last
  | _ => m.commit
def numOk (m : Msg) (i : Nat) : Bool := decide (numM m i ≥ 0) && decide (numM m i ≤ 1099511627776)
theorem okM_eq (n : Node) (m : Msg) : (okM n m && ((List.range 3).all fun i => numOk m i) && decide (m.lastTerm ≥ 0) && decide (m.lastTerm ≤ m.term) && decide ((m.items.length : Int) ≤ 16)) = !(badM n m) := by
  have h3 : ((List.range 3).all fun i => numOk m i) = (numOk m 0 && numOk m 1 && numOk m 2) := by
    rw [all_snoc, all_snoc, all_snoc]; rfl
  rw [h3]
  unfold okM badM numOk numM
  apply Bool.eq_iff_iff.2
  simp only [Bool.and_eq_true, Bool.not_eq_true', Bool.or_eq_false_iff, decide_eq_true_eq, decide_eq_false_iff_not, beq_iff_eq, bne_iff_ne, ne_eq, beq_eq_false_iff_ne, bne_eq_false_iff_eq, Int.not_lt, gt_iff_lt, ge_iff_le]
  constructor
  · rintro ⟨⟨⟨⟨⟨⟨⟨⟨⟨h1, h2⟩, h3⟩, h4⟩, h5⟩, h6⟩, ⟨⟨h7, h8⟩, h9, h10⟩, h11, h12⟩, h13⟩, h14⟩, h15⟩
    exact ⟨⟨⟨⟨⟨⟨⟨⟨⟨⟨⟨⟨⟨⟨h1, h2⟩, by omega⟩, by omega⟩, h5⟩, h6⟩, h7⟩, h8⟩, h9⟩, h10⟩, h13⟩, h14⟩, h11⟩, h12⟩, h15⟩
  · rintro ⟨⟨⟨⟨⟨⟨⟨⟨⟨⟨⟨⟨⟨⟨h1, h2⟩, h3⟩, h4⟩, h5⟩, h6⟩, h7⟩, h8⟩, h9⟩, h10⟩, h13⟩, h14⟩, h11⟩, h12⟩, h15⟩
    exact ⟨⟨⟨⟨⟨⟨⟨⟨⟨h1, h2⟩, by omega⟩, by omega⟩, h5⟩, h6⟩, ⟨⟨h7, h8⟩, h9, h10⟩, h11, h12⟩, h13⟩, h14⟩, h15⟩
set_option maxRecDepth 100000 in
theorem refSound_ok : SpecOk Try.prog 19 soundSpec := by
  refine spec_of_exec (fn := Try.f19) (c := Try.f19.body.getD .skip) (d := 1) (lv := ([0, 1, 2, 3, 4, 5, 7, 8, 10, 51, 52, 53, 54, 89, 90, 91, 92])) (DP := DPx T1 (CPs S3) ([0, 1, 2, 3, 4, 5, 7, 8, 10, 51, 52, 53, 54, 89, 90, 91, 92])) T1_ok S3_ok (fun B => DPx_ok T1_ok ord S3_ok B) soundSpec (by rfl) (by rfl) (by rfl) (fun _ => Nat.le_of_ble_eq_true (by kernel_rfl)) ?_
  rintro ⟨n, A, c, k, D, e, m⟩ ⟨hc, hn⟩
  obtain ⟨s, hs⟩ : ∃ s, s = k.items.length := ⟨_, rfl⟩
  have hr : soundB n k = ((okM n k && ((List.range 3).all fun i => numOk k i) && decide (k.lastTerm ≥ 0) && decide (k.lastTerm ≤ k.term) && decide ((k.items.length : Int) ≤ 16)) && upB k.term k.lastTerm k.items) := by unfold soundB; rw [okM_eq]
  conv => whnf
  generalize hok : (okM n k && ((List.range 3).all fun i => numOk k i) && decide (k.lastTerm ≥ 0) && decide (k.lastTerm ≤ k.term) && decide ((k.items.length : Int) ≤ 16)) = okk at hr
  refine ⟨Nat, fun i => i ≤ 3, fun i => ⟨118, [⟨2, [], .p 0 0⟩, ⟨3, [], .p 1 0⟩, ⟨4, [], .b false⟩, ⟨5, [], .b (okM n k && (List.range i).all fun i => numOk k i)⟩, ⟨51, [], .rw 2 3⟩, ⟨52, [], .i .i64 3⟩, ⟨53, [], .i .i64 i⟩], [], [(2, .row 3 1 3 [.int .i64 k.term, .int .i64 k.last, .int .i64 k.commit]), (1, .st 29 (msgC k (.sl D s e))), (0, .st 27 (nodeC n (.sl A n.log.items.length c)))], 3⟩, fun _ => m, fun i => 3 - i, ⟨0, rfl, Nat.zero_le _, ?_⟩, ?_⟩
  conv => whnf
  · conv => whnf
    repeat (first | exact trivial | (refine ⟨by first | exact ⟨rfl, rfl, rfl⟩ | rfl | exact ⟨rfl, rfl⟩ | exact ⟨rfl, fun _ _ => rfl⟩ | exact fun _ _ h => h | (intro _ _ h; cases h; done) | exact ⟨rfl, hs.symm, rfl⟩ | exact congrArg Int.ofNat hs.symm | (simp only [ifand]; show okM n k = (okM n k && true); rw [Bool.and_true]), ?_⟩; conv => whnf))
  · rintro i hi
    refine ⟨fun hlt => ?_, fun hge => ?_⟩
    conv => whnf
    · have hlt : i < 3 := by have h2 := of_decide_eq_true hlt; omega
      repeat (first | exact trivial | (refine ⟨by first | exact ⟨rfl, rfl, rfl⟩ | rfl | exact ⟨rfl, rfl⟩ | exact ⟨rfl, fun _ _ => rfl⟩ | exact fun _ _ h => h | (intro _ _ h; cases h; done) | exact ⟨Int.natCast_nonneg _, by omega, Nat.le_refl _⟩, ?_⟩; conv => whnf))
      have hv : (i : Int).toNat * 1 + 1 ≤ 3 ∧ [Value.int .i64 (numM k i)] = (([Value.int .i64 k.term, .int .i64 k.last, .int .i64 k.commit] : List Value).drop ((i : Int).toNat * 1)).take 1 := by
        have : i = 0 ∨ i = 1 ∨ i = 2 := by omega
        rcases this with rfl | rfl | rfl <;> exact ⟨by decide, rfl⟩
      refine ⟨.i .i64 (numM k i), ⟨rfl, rfl, rfl, hv⟩, ?_⟩
      conv => whnf
      have hal : (okM n k && (List.range (i + 1)).all fun i => numOk k i) = (okM n k && ((List.range i).all fun i => numOk k i) && numOk k i) := by rw [all_snoc, Bool.and_assoc]
      have hal2 : (if (if (okM n k && (List.range i).all fun i => numOk k i) = true then decide (numM k i ≥ 0) else false) = true then decide (numM k i ≤ 1099511627776) else false) = (okM n k && (List.range (i + 1)).all fun i => numOk k i) := by
        rw [hal]
        simp only [ifand]
        generalize (okM n k && (List.range i).all fun i => numOk k i) = b
        unfold numOk
        rw [Bool.and_assoc]
      refine ⟨i + 1, rfl, ⟨hlt, by show 3 - (i + 1) < 3 - i; omega⟩, ?_⟩
      conv => whnf
      repeat (first | exact trivial | (refine ⟨by first | exact ⟨rfl, rfl, rfl⟩ | rfl | exact ⟨rfl, rfl⟩ | exact ⟨rfl, fun _ _ => rfl⟩ | exact fun _ _ h => h | (intro _ _ h; cases h; done) | exact wrapi_succ (by omega) | exact hal2, ?_⟩; conv => whnf))
    · have hge : i = 3 := by have h2 := of_decide_eq_false hge; omega
      subst hge
      conv => whnf
      have hl0 : (if (if (if (okM n k && (List.range 3).all fun i => numOk k i) = true then decide (k.lastTerm ≥ 0) else false) = true then decide (k.lastTerm ≤ k.term) else false) = true then decide ((s : Int) ≤ 16) else false) = okk := by
        rw [← hok, hs]; simp only [ifand]
      refine ⟨Nat, fun i => i ≤ s, fun i => ⟨118, [⟨2, [], .p 0 0⟩, ⟨3, [], .p 1 0⟩, ⟨4, [], .b false⟩, ⟨5, [], .b (okk && upB k.term k.lastTerm (k.items.take i))⟩, ⟨8, [], .i .i64 (endT k.lastTerm (k.items.take i))⟩, ⟨89, [], .sl D s e⟩, ⟨90, [], .i .i64 s⟩, ⟨91, [], .i .i64 i⟩], [], [(1, .st 29 (msgC k (.sl D s e))), (0, .st 27 (nodeC n (.sl A n.log.items.length c)))], 2⟩, fun _ => m, fun i => s - i, ⟨0, rfl, Nat.zero_le _, ?_⟩, ?_⟩
      conv => whnf
      · conv => whnf
        repeat (first | exact trivial | (refine ⟨by first | exact ⟨rfl, rfl, rfl⟩ | rfl | exact ⟨rfl, rfl⟩ | exact ⟨rfl, fun _ _ => rfl⟩ | exact fun _ _ h => h | (intro _ _ h; cases h; done) | (show _ = (okk && true); rw [Bool.and_true]; exact hl0), ?_⟩; conv => whnf))
      · rintro i hi
        refine ⟨fun hlt => ?_, fun hge => ?_⟩
        conv => whnf
        · have hlt : i < s := by have h2 := of_decide_eq_true hlt; omega
          obtain ⟨x, hx⟩ : ∃ x, k.items[i]? = some x := ⟨_, List.getElem?_eq_getElem (by omega)⟩
          have hA := hc.some' (by omega)
          have hl' : endT k.lastTerm (k.items.take (i + 1)) = x.term := by rw [take_snoc hx, last_snoc]
          have hup : upB k.term k.lastTerm (k.items.take (i + 1)) = (upB k.term k.lastTerm (k.items.take i) && (decide (x.term ≥ endT k.lastTerm (k.items.take i)) && decide (x.term ≤ k.term) && validB x.e)) := by rw [take_snoc hx, up_snoc]
          refine ⟨⟨Int.natCast_nonneg _, by show (i : Int) < (s : Int); omega, hA⟩, ?_⟩
          conv => whnf
          refine ⟨.g (itemC x), ⟨rfl, rfl, hc.rd (o := i * 6 + 0) (by show (i : Int).toNat * 6 = _; rw [Int.toNat_natCast, Nat.add_zero]) rfl (by show 0 < 6; decide) (by rw [itemsV_at hx 0 6 (by omega)]; rfl)⟩, ?_⟩
          conv => whnf
          refine ⟨fun hb => ?_, fun hb => ?_⟩
          conv => whnf
          · refine ⟨x.e, trivial, ?_⟩
            conv => whnf
            repeat (first | exact trivial | (refine ⟨by first | exact ⟨rfl, rfl, rfl⟩ | rfl | exact ⟨rfl, rfl⟩ | exact ⟨rfl, fun _ _ => rfl⟩ | exact fun _ _ h => h | (intro _ _ h; cases h; done), ?_⟩; conv => whnf))
            intro _ _
            conv => whnf
            have hr : validB x.e = (okk && upB k.term k.lastTerm (k.items.take (i + 1))) := by
              simp only [ifand] at hb
              rw [hup, ← Bool.and_assoc, ← Bool.and_assoc, ← Bool.and_assoc, hb, Bool.true_and]
            refine ⟨i + 1, rfl, ⟨hlt, by show s - (i + 1) < s - i; omega⟩, ?_⟩
            conv => whnf
            repeat (first | exact trivial | (refine ⟨by first | exact ⟨rfl, rfl, rfl⟩ | rfl | exact ⟨rfl, rfl⟩ | exact ⟨rfl, fun _ _ => rfl⟩ | exact fun _ _ h => h | (intro _ _ h; cases h; done) | exact hr | exact hl'.symm | exact hl' | exact wrapi_succ (Nat.lt_of_lt_of_le hlt (by omega)), ?_⟩; conv => whnf))
          · conv => whnf
            have hr : false = (okk && upB k.term k.lastTerm (k.items.take (i + 1))) := by
              simp only [ifand] at hb
              rw [hup, ← Bool.and_assoc, ← Bool.and_assoc, ← Bool.and_assoc, hb, Bool.false_and]
            refine ⟨i + 1, rfl, ⟨hlt, by show s - (i + 1) < s - i; omega⟩, ?_⟩
            conv => whnf
            repeat (first | exact trivial | (refine ⟨by first | exact ⟨rfl, rfl, rfl⟩ | rfl | exact ⟨rfl, rfl⟩ | exact ⟨rfl, fun _ _ => rfl⟩ | exact fun _ _ h => h | (intro _ _ h; cases h; done) | exact hr | exact hl'.symm | exact hl' | exact wrapi_succ (Nat.lt_of_lt_of_le hlt (by omega)), ?_⟩; conv => whnf))
        · have hge : i = s := by have h2 := of_decide_eq_false hge; omega
          rw [← List.take_length (l := k.items), ← hs, ← hge] at hr
          refine ⟨(), trivial, ?_⟩
          conv => whnf
          repeat (first | exact trivial | exact fun _ _ h => h | (refine ⟨by first | exact ⟨rfl, rfl, rfl⟩ | rfl | exact ⟨rfl, rfl⟩ | exact ⟨rfl, fun _ _ => rfl⟩ | exact fun _ _ h => h | (intro _ _ h; cases h; done) | exact hr.symm, ?_⟩; conv => whnf))
end Go.Proofs.Ytjpjiniclibgkaa.Sx

namespace Go.Proofs.Ytjpjiniclibgkaa.Sx
open Go

/-- Where a turn's items lie: in a row of its own, or in memory that stays, or in a row of its own that holds more. -/
inductive Mode where
  | own
  | st (A : Option Addr) (c : Nat)
  | wide (ys : List Item)
def Mode.I (M : Mode) (q len : Nat) : SV := match M with
  | .own => .rw q len
  | .st A c => .sl A len c
  | .wide _ => .rw q len
def Mode.H (M : Mode) (q : Nat) (xs : List Item) : Heap := match M with
  | .own => [(q, .row 44 6 xs.length (itemsV xs))]
  | .st _ _ => []
  | .wide ys => [(q, .row 44 6 ys.length (itemsV ys))]
def Mode.ok (M : Mode) (m : Mem) (xs : List Item) : Prop := match M with
  | .own => True
  | .st A _ => Cells m A (itemsV xs)
  | .wide ys => xs.length ≤ ys.length ∧ ys.take xs.length = xs
/-- A message that is said, and where its items lie. -/
structure OMsg where
  k : Msg
  A : Option Addr
  c : Nat
def msgV (o : OMsg) : List Value := [.int .i64 o.k.frm, .int .i64 o.k.to, .int .i64 o.k.kind, .int .i64 o.k.term, .int .i64 o.k.last, .int .i64 o.k.lastTerm, .int .i64 o.k.commit, .bool o.k.yes, .slice o.A o.k.items.length o.c, .string o.k.book]
def saidV (os : List OMsg) : List Value := os.flatMap msgV
def Said (m : Mem) (os : List OMsg) : Prop := ∀ o ∈ os, Cells m o.A (itemsV o.k.items) ∧ o.k.items.length ≤ o.c
theorem saidV_len (os : List OMsg) : (saidV os).length = os.length * 10 := by
  induction os with
  | nil => rfl
  | cons o r ih => simp only [saidV, List.flatMap_cons, List.length_append, List.length_cons] at ih ⊢; rw [ih]; show 10 + _ = _; omega
theorem saidV_append (xs ys : List OMsg) : saidV (xs ++ ys) = saidV xs ++ saidV ys := by simp [saidV]
theorem Said.ext {m m' : Mem} (h : ∀ b o, m b = some o → m' b = some o) {os : List OMsg} (hs : Said m os) : Said m' os := fun o ho => ⟨(hs o ho).1.ext h, (hs o ho).2⟩
theorem Said.snoc {m : Mem} {os : List OMsg} {o : OMsg} (hs : Said m os) (ho : Cells m o.A (itemsV o.k.items)) (hl : o.k.items.length ≤ o.c := by exact Nat.le_refl _) : Said m (os ++ [o]) := by
  intro p hp
  rcases List.mem_append.1 hp with hp | hp
  · exact hs p hp
  · obtain rfl := List.mem_singleton.1 hp
    exact ⟨ho, hl⟩
theorem said_one (xs : List OMsg) : ∀ u ∈ saidV xs, u.oneCell' = true := by
  intro u hu
  obtain ⟨o, _, ho⟩ := List.mem_flatMap.1 hu
  simp only [msgV, List.mem_cons, List.not_mem_nil, or_false] at ho
  rcases ho with rfl | rfl | rfl | rfl | rfl | rfl | rfl | rfl | rfl | rfl <;> rfl
theorem Mode.ok.ext {M : Mode} {m m' : Mem} (h : ∀ b o, m b = some o → m' b = some o) {xs : List Item} (hs : M.ok m xs) : M.ok m' xs := by
  cases M with
  | own => trivial
  | st A c => exact Cells.ext h hs
  | wide ys => exact hs
/-- What a row holds of which a slice is the beginning. -/
theorem wide_cells {m m' : Mem} {A : Option Addr} {cap : Nat} {xs ys : List Item} (hs : xs.length ≤ ys.length ∧ ys.take xs.length = xs) (h : Sealed m m' A cap ys.length 6 (itemsV ys)) : Cells m' A (itemsV xs) := by
  have h1 : Cells m' A (itemsV ys) := .of_sealed h
  rw [← hs.2, ← itemsV_take]
  intro j v hj
  rw [List.getElem?_take] at hj
  split at hj
  · exact h1 j v hj
  · cases hj
/-- A turn's blocks: r is what is said, q the items. -/
def turnH (t : TypeId) (r q : Nat) (n : Node) (M : Mode) (os : List OMsg) : Heap := (0, .st t (turnC n (M.I q n.log.items.length) (.rw r os.length))) :: (r, .row 29 10 os.length (saidV os)) :: M.H q n.log.items
structure SayG where
  n : Node
  M : Mode
  os : List OMsg
  m : Mem
  to : Int
  k : Msg
  D : Option Addr
  e : Nat
def sayN (n : Node) (to : Int) (k : Msg) : Msg := { k with frm := n.me, to := to, term := n.log.term }
def saySpec (t : TypeId) : Spec where
  A := SayG
  R := fun ⟨_, _, os, m, _, k, D, _⟩ => os.length < 1000 ∧ Cells m D (itemsV k.items)
  J := fun ⟨_, _, _, m, _, _, _, _⟩ => m
  args := fun ⟨_, _, _, _, to, k, D, e⟩ => [.p 0 0, .i .i64 to, .g (msgC k (.sl D k.items.length e))]
  h := fun ⟨n, M, os, _, _, _, _, _⟩ => turnH t 1 2 n M os
  nx := 3
  Bb := List OMsg
  C := fun ⟨n, _, os, _, to, k, D, e⟩ b => b = os ++ [⟨sayN n to k, D, e⟩]
  out := fun _ _ => .ret (.t [])
  h2 := fun ⟨n, M, _, _, _, _, _, _⟩ b => turnH t 3 4 n M b
  nx2 := 5
  md := 2
set_option maxRecDepth 100000 in
set_option maxHeartbeats 1600000 in
theorem say_ok : SpecOk Try.prog 50 (saySpec 78) := by
  refine spec_of_exec (fn := Try.f50) (c := Try.f50.body.getD .skip) (d := 0) (lv := ([0, 1, 2, 5])) (DP := DPx T1 (CPs S3) ([0, 1, 2, 5])) T1_ok S3_ok (fun B => DPx_ok T1_ok ord S3_ok B) (saySpec 78) (by rfl) (by rfl) (by rfl) (fun _ => Nat.le_of_ble_eq_true (by kernel_rfl)) ?_
  rintro ⟨n, M, os, m, to, k, D, e⟩ ⟨ho, hc⟩
  have fin : saidV (os ++ [⟨sayN n to k, D, e⟩]) = saidV os ++ [.int .i64 n.me, .int .i64 to, .int .i64 k.kind, .int .i64 n.log.term, .int .i64 k.last, .int .i64 k.lastTerm, .int .i64 k.commit, .bool k.yes, .slice D k.items.length e, .string k.book] := by rw [saidV_append]; rfl
  have hlen : os.length + 1 = (os ++ [(⟨sayN n to k, D, e⟩ : OMsg)]).length := by simp
  have hrow : (saidV os).take (os.length * 10) ++ [Value.int .i64 n.me, .int .i64 to, .int .i64 k.kind, .int .i64 n.log.term, .int .i64 k.last, .int .i64 k.lastTerm, .int .i64 k.commit, .bool k.yes, .slice D k.items.length e, .string k.book] = saidV (os ++ [⟨sayN n to k, D, e⟩]) := by
    rw [fin, List.take_of_length_le (by rw [saidV_len]; exact Nat.le_refl _)]
  cases M with
  | own =>
    conv => whnf
    refine Or.inr ⟨[0], sc50_1, by kernel_rfl, ?_⟩
    conv => whnf
    repeat (first | exact trivial | (refine ⟨by first | exact ⟨rfl, rfl, rfl⟩ | rfl | exact ⟨rfl, rfl⟩ | exact ⟨rfl, fun _ _ => rfl⟩ | exact fun _ _ h => h | (intro _ _ h; cases h; done), ?_⟩; conv => whnf))
    refine Or.inr ⟨[0], sc50_2, by kernel_rfl, ?_⟩
    conv => whnf
    repeat (first | exact trivial | (refine ⟨by first | exact ⟨rfl, rfl, rfl⟩ | rfl | exact ⟨rfl, rfl⟩ | exact ⟨rfl, fun _ _ => rfl⟩ | exact fun _ _ h => h | (intro _ _ h; cases h; done) | exact ⟨Nat.le_refl _, by show (os.length + 1) * 104 ≤ _; omega, by omega⟩ | exact Nat.le_refl _, ?_⟩; conv => whnf))
    refine ⟨_, rfl, ?_⟩
    conv => whnf
    repeat (first | exact trivial | exact fun _ _ h => h | (refine ⟨by first | exact ⟨rfl, rfl, rfl⟩ | rfl | exact ⟨rfl, rfl⟩ | exact ⟨rfl, fun _ _ => rfl⟩ | exact fun _ _ h => h | (intro _ _ h; cases h; done) | exact hlen | exact ⟨hlen.symm, hrow.symm⟩ | exact ⟨hlen, hrow⟩, ?_⟩; conv => whnf))
  | st A c =>
    conv => whnf
    refine Or.inr ⟨[0], sc50_1, by kernel_rfl, ?_⟩
    conv => whnf
    repeat (first | exact trivial | (refine ⟨by first | exact ⟨rfl, rfl, rfl⟩ | rfl | exact ⟨rfl, rfl⟩ | exact ⟨rfl, fun _ _ => rfl⟩ | exact fun _ _ h => h | (intro _ _ h; cases h; done), ?_⟩; conv => whnf))
    refine Or.inr ⟨[0], sc50_2, by kernel_rfl, ?_⟩
    conv => whnf
    repeat (first | exact trivial | (refine ⟨by first | exact ⟨rfl, rfl, rfl⟩ | rfl | exact ⟨rfl, rfl⟩ | exact ⟨rfl, fun _ _ => rfl⟩ | exact fun _ _ h => h | (intro _ _ h; cases h; done) | exact ⟨Nat.le_refl _, by show (os.length + 1) * 104 ≤ _; omega, by omega⟩ | exact Nat.le_refl _, ?_⟩; conv => whnf))
    refine ⟨_, rfl, ?_⟩
    conv => whnf
    repeat (first | exact trivial | exact fun _ _ h => h | (refine ⟨by first | exact ⟨rfl, rfl, rfl⟩ | rfl | exact ⟨rfl, rfl⟩ | exact ⟨rfl, fun _ _ => rfl⟩ | exact fun _ _ h => h | (intro _ _ h; cases h; done) | exact hlen | exact ⟨hlen.symm, hrow.symm⟩ | exact ⟨hlen, hrow⟩, ?_⟩; conv => whnf))
  | wide ys =>
    conv => whnf
    refine Or.inr ⟨[0], sc50_1, by kernel_rfl, ?_⟩
    conv => whnf
    repeat (first | exact trivial | (refine ⟨by first | exact ⟨rfl, rfl, rfl⟩ | rfl | exact ⟨rfl, rfl⟩ | exact ⟨rfl, fun _ _ => rfl⟩ | exact fun _ _ h => h | (intro _ _ h; cases h; done), ?_⟩; conv => whnf))
    refine Or.inr ⟨[0], sc50_2, by kernel_rfl, ?_⟩
    conv => whnf
    repeat (first | exact trivial | (refine ⟨by first | exact ⟨rfl, rfl, rfl⟩ | rfl | exact ⟨rfl, rfl⟩ | exact ⟨rfl, fun _ _ => rfl⟩ | exact fun _ _ h => h | (intro _ _ h; cases h; done) | exact ⟨Nat.le_refl _, by show (os.length + 1) * 104 ≤ _; omega, by omega⟩ | exact Nat.le_refl _, ?_⟩; conv => whnf))
    refine ⟨_, rfl, ?_⟩
    conv => whnf
    repeat (first | exact trivial | exact fun _ _ h => h | (refine ⟨by first | exact ⟨rfl, rfl, rfl⟩ | rfl | exact ⟨rfl, rfl⟩ | exact ⟨rfl, fun _ _ => rfl⟩ | exact fun _ _ h => h | (intro _ _ h; cases h; done) | exact hlen | exact ⟨hlen.symm, hrow.symm⟩ | exact ⟨hlen, hrow⟩, ?_⟩; conv => whnf))
set_option maxRecDepth 100000 in
set_option maxHeartbeats 1600000 in
theorem refSay_ok : SpecOk Try.prog 55 (saySpec 85) := by
  refine spec_of_exec (fn := Try.f55) (c := Try.f55.body.getD .skip) (d := 0) (lv := ([0, 1, 2, 5])) (DP := DPx T1 (CPs S3) ([0, 1, 2, 5])) T1_ok S3_ok (fun B => DPx_ok T1_ok ord S3_ok B) (saySpec 85) (by rfl) (by rfl) (by rfl) (fun _ => Nat.le_of_ble_eq_true (by kernel_rfl)) ?_
  rintro ⟨n, M, os, m, to, k, D, e⟩ ⟨ho, hc⟩
  have fin : saidV (os ++ [⟨sayN n to k, D, e⟩]) = saidV os ++ [.int .i64 n.me, .int .i64 to, .int .i64 k.kind, .int .i64 n.log.term, .int .i64 k.last, .int .i64 k.lastTerm, .int .i64 k.commit, .bool k.yes, .slice D k.items.length e, .string k.book] := by rw [saidV_append]; rfl
  have hlen : os.length + 1 = (os ++ [(⟨sayN n to k, D, e⟩ : OMsg)]).length := by simp
  have hrow : (saidV os).take (os.length * 10) ++ [Value.int .i64 n.me, .int .i64 to, .int .i64 k.kind, .int .i64 n.log.term, .int .i64 k.last, .int .i64 k.lastTerm, .int .i64 k.commit, .bool k.yes, .slice D k.items.length e, .string k.book] = saidV (os ++ [⟨sayN n to k, D, e⟩]) := by
    rw [fin, List.take_of_length_le (by rw [saidV_len]; exact Nat.le_refl _)]
  cases M with
  | own =>
    conv => whnf
    refine Or.inr ⟨[0], sc55_4, by kernel_rfl, ?_⟩
    conv => whnf
    repeat (first | exact trivial | (refine ⟨by first | exact ⟨rfl, rfl, rfl⟩ | rfl | exact ⟨rfl, rfl⟩ | exact ⟨rfl, fun _ _ => rfl⟩ | exact fun _ _ h => h | (intro _ _ h; cases h; done) | exact ⟨Nat.le_refl _, by show (os.length + 1) * 104 ≤ _; omega, by omega⟩ | exact Nat.le_refl _, ?_⟩; conv => whnf))
    refine ⟨_, rfl, ?_⟩
    conv => whnf
    repeat (first | exact trivial | exact fun _ _ h => h | (refine ⟨by first | exact ⟨rfl, rfl, rfl⟩ | rfl | exact ⟨rfl, rfl⟩ | exact ⟨rfl, fun _ _ => rfl⟩ | exact fun _ _ h => h | (intro _ _ h; cases h; done) | exact hlen | exact ⟨hlen.symm, hrow.symm⟩ | exact ⟨hlen, hrow⟩, ?_⟩; conv => whnf))
  | st A c =>
    conv => whnf
    refine Or.inr ⟨[0], sc55_4, by kernel_rfl, ?_⟩
    conv => whnf
    repeat (first | exact trivial | (refine ⟨by first | exact ⟨rfl, rfl, rfl⟩ | rfl | exact ⟨rfl, rfl⟩ | exact ⟨rfl, fun _ _ => rfl⟩ | exact fun _ _ h => h | (intro _ _ h; cases h; done) | exact ⟨Nat.le_refl _, by show (os.length + 1) * 104 ≤ _; omega, by omega⟩ | exact Nat.le_refl _, ?_⟩; conv => whnf))
    refine ⟨_, rfl, ?_⟩
    conv => whnf
    repeat (first | exact trivial | exact fun _ _ h => h | (refine ⟨by first | exact ⟨rfl, rfl, rfl⟩ | rfl | exact ⟨rfl, rfl⟩ | exact ⟨rfl, fun _ _ => rfl⟩ | exact fun _ _ h => h | (intro _ _ h; cases h; done) | exact hlen | exact ⟨hlen.symm, hrow.symm⟩ | exact ⟨hlen, hrow⟩, ?_⟩; conv => whnf))
  | wide ys =>
    conv => whnf
    refine Or.inr ⟨[0], sc55_4, by kernel_rfl, ?_⟩
    conv => whnf
    repeat (first | exact trivial | (refine ⟨by first | exact ⟨rfl, rfl, rfl⟩ | rfl | exact ⟨rfl, rfl⟩ | exact ⟨rfl, fun _ _ => rfl⟩ | exact fun _ _ h => h | (intro _ _ h; cases h; done) | exact ⟨Nat.le_refl _, by show (os.length + 1) * 104 ≤ _; omega, by omega⟩ | exact Nat.le_refl _, ?_⟩; conv => whnf))
    refine ⟨_, rfl, ?_⟩
    conv => whnf
    repeat (first | exact trivial | exact fun _ _ h => h | (refine ⟨by first | exact ⟨rfl, rfl, rfl⟩ | rfl | exact ⟨rfl, rfl⟩ | exact ⟨rfl, fun _ _ => rfl⟩ | exact fun _ _ h => h | (intro _ _ h; cases h; done) | exact hlen | exact ⟨hlen.symm, hrow.symm⟩ | exact ⟨hlen, hrow⟩, ?_⟩; conv => whnf))
/-! ### follow -/
structure FollowG where
  n : Node
  M : Mode
  os : List OMsg
  m : Mem
  term : Int
  lead : Int
def followN (n : Node) (term lead : Int) : Node :=
  { n with log := if term > n.log.term then { n.log with term := term, vote := -1 } else n.log, role := 0, lead := lead, votes := 0, next := fun _ => 0, mat := fun _ => 0 }
def followSpec (t : TypeId) : Spec where
  A := FollowG
  R := fun _ => True
  J := fun ⟨_, _, _, m, _, _⟩ => m
  args := fun ⟨_, _, _, _, term, lead⟩ => [.p 0 0, .i .i64 term, .i .i64 lead]
  h := fun ⟨n, M, os, _, _, _⟩ => turnH t 1 2 n M os
  nx := 3
  Bb := Node
  C := fun ⟨n, _, _, _, term, lead⟩ b => b = followN n term lead
  out := fun _ _ => .ret (.t [])
  h2 := fun ⟨_, M, os, _, _, _⟩ b => turnH t 3 4 b M os
  nx2 := 5
set_option maxRecDepth 100000 in
set_option maxHeartbeats 1600000 in
theorem follow_ok : SpecOk Try.prog 46 (followSpec 78) := by
  refine spec_of_exec (fn := Try.f46) (c := Try.f46.body.getD .skip) (d := 0) (lv := ([0, 1, 2, 13])) (DP := DPx T1 (CPs S3) ([0, 1, 2, 13])) T1_ok S3_ok (fun B => DPx_ok T1_ok ord S3_ok B) (followSpec 78) (by rfl) (by rfl) (by rfl) (fun _ => Nat.le_of_ble_eq_true (by kernel_rfl)) ?_
  rintro ⟨n, M, os, m, term, lead⟩ _
  have up : ∀ b : Bool, decide (term > n.log.term) = b → followN n term lead = { n with log := if b = true then { n.log with term := term, vote := -1 } else n.log, role := 0, lead := lead, votes := 0, next := fun _ => 0, mat := fun _ => 0 } := by
    intro b hb
    unfold followN
    rw [← hb]
    simp only [decide_eq_true_eq]
  cases M with
  | own =>
    conv => whnf
    refine ⟨fun h => ?_, fun h => ?_⟩
    conv => whnf
    · refine ⟨_, (up _ h).symm, ?_⟩
      conv => whnf
      repeat (first | exact trivial | exact fun _ _ h => h | (refine ⟨by first | exact ⟨rfl, rfl, rfl⟩ | rfl | exact ⟨rfl, rfl⟩ | exact ⟨rfl, fun _ _ => rfl⟩ | exact fun _ _ h => h | (intro _ _ h; cases h; done), ?_⟩; conv => whnf))
    · refine ⟨_, (up _ h).symm, ?_⟩
      conv => whnf
      repeat (first | exact trivial | exact fun _ _ h => h | (refine ⟨by first | exact ⟨rfl, rfl, rfl⟩ | rfl | exact ⟨rfl, rfl⟩ | exact ⟨rfl, fun _ _ => rfl⟩ | exact fun _ _ h => h | (intro _ _ h; cases h; done), ?_⟩; conv => whnf))
  | st A c =>
    conv => whnf
    refine ⟨fun h => ?_, fun h => ?_⟩
    conv => whnf
    · refine ⟨_, (up _ h).symm, ?_⟩
      conv => whnf
      repeat (first | exact trivial | exact fun _ _ h => h | (refine ⟨by first | exact ⟨rfl, rfl, rfl⟩ | rfl | exact ⟨rfl, rfl⟩ | exact ⟨rfl, fun _ _ => rfl⟩ | exact fun _ _ h => h | (intro _ _ h; cases h; done), ?_⟩; conv => whnf))
    · refine ⟨_, (up _ h).symm, ?_⟩
      conv => whnf
      repeat (first | exact trivial | exact fun _ _ h => h | (refine ⟨by first | exact ⟨rfl, rfl, rfl⟩ | rfl | exact ⟨rfl, rfl⟩ | exact ⟨rfl, fun _ _ => rfl⟩ | exact fun _ _ h => h | (intro _ _ h; cases h; done), ?_⟩; conv => whnf))
  | wide ys =>
    conv => whnf
    refine ⟨fun h => ?_, fun h => ?_⟩
    conv => whnf
    · refine ⟨_, (up _ h).symm, ?_⟩
      conv => whnf
      repeat (first | exact trivial | exact fun _ _ h => h | (refine ⟨by first | exact ⟨rfl, rfl, rfl⟩ | rfl | exact ⟨rfl, rfl⟩ | exact ⟨rfl, fun _ _ => rfl⟩ | exact fun _ _ h => h | (intro _ _ h; cases h; done), ?_⟩; conv => whnf))
    · refine ⟨_, (up _ h).symm, ?_⟩
      conv => whnf
      repeat (first | exact trivial | exact fun _ _ h => h | (refine ⟨by first | exact ⟨rfl, rfl, rfl⟩ | rfl | exact ⟨rfl, rfl⟩ | exact ⟨rfl, fun _ _ => rfl⟩ | exact fun _ _ h => h | (intro _ _ h; cases h; done), ?_⟩; conv => whnf))
theorem set_lt (f : Nat → Int) (i j : Nat) : (if j = (i : Int).toNat then (0 : Int) else if j < i then 0 else f j) = if j < i + 1 then 0 else f j := by
  rw [Int.toNat_natCast]
  by_cases h1 : j = i
  · rw [if_pos h1, if_pos (by omega)]
  · rw [if_neg h1]
    by_cases h2 : j < i
    · rw [if_pos h2, if_pos (by omega)]
    · rw [if_neg h2, if_neg (by omega)]
set_option maxRecDepth 100000 in
set_option maxHeartbeats 1600000 in
theorem refFollow_ok : SpecOk Try.prog 54 (followSpec 85) := by
  refine spec_of_exec (fn := Try.f54) (c := Try.f54.body.getD .skip) (d := 1) (lv := ([0, 1, 2, 6, 14, 40])) (DP := DPx T1 (CPs S3) ([0, 1, 2, 6, 14, 40])) T1_ok S3_ok (fun B => DPx_ok T1_ok ord S3_ok B) (followSpec 85) (by rfl) (by rfl) (by rfl) (fun _ => Nat.le_of_ble_eq_true (by kernel_rfl)) ?_
  rintro ⟨n, M, os, m, term, lead⟩ _
  have up : ∀ b : Bool, decide (term > n.log.term) = b → followN n term lead = { n with log := if b = true then { n.log with term := term, vote := -1 } else n.log, role := 0, lead := lead, votes := 0, next := fun _ => 0, mat := fun _ => 0 } := by
    intro b hb
    unfold followN
    rw [← hb]
    simp only [decide_eq_true_eq]
  cases M with
  | own =>
    conv => whnf
    refine ⟨fun h => ?_, fun h => ?_⟩
    conv => whnf
    · conv => whnf
      refine ⟨Nat, fun i => i ≤ 7, fun i => ⟨55, [⟨0, [], .p 0 0⟩, ⟨6, [], .i .i64 i⟩], [], turnH 85 1 2 { n with log := { n.log with term := term, vote := -1 }, role := 0, lead := lead, votes := 0, next := fun j => if j < i then 0 else n.next j, mat := fun j => if j < i then 0 else n.mat j } .own os, 3⟩, fun _ => m, fun i => 7 - i, ⟨0, rfl, Nat.zero_le _, ?_⟩, ?_⟩
      conv => whnf
      · conv => whnf
        repeat (first | exact trivial | (refine ⟨by first | exact ⟨rfl, rfl, rfl⟩ | rfl | exact ⟨rfl, rfl⟩ | exact ⟨rfl, fun _ _ => rfl⟩ | exact fun _ _ h => h | (intro _ _ h; cases h; done), ?_⟩; conv => whnf))
      · intro i hi
        refine ⟨fun hlt => ?_, fun hge => ?_⟩
        conv => whnf
        · have hlt : i < 7 := by have h2 := of_decide_eq_true hlt; omega
          repeat (first | exact trivial | (refine ⟨by first | exact ⟨rfl, rfl, rfl⟩ | rfl | exact ⟨rfl, rfl⟩ | exact ⟨rfl, fun _ _ => rfl⟩ | exact fun _ _ h => h | (intro _ _ h; cases h; done) | exact ⟨Int.natCast_nonneg _, by show (i : Int) < 7; omega⟩ | (show (i : Int).toNat < 7; omega), ?_⟩; conv => whnf))
          refine ⟨i + 1, rfl, ⟨hlt, by show 7 - (i + 1) < 7 - i; omega⟩, ?_⟩
          conv => whnf
          repeat (first | exact trivial | (refine ⟨by first | exact ⟨rfl, rfl, rfl⟩ | rfl | exact ⟨rfl, rfl⟩ | exact ⟨rfl, fun _ _ => rfl⟩ | exact fun _ _ h => h | (intro _ _ h; cases h; done) | exact wrapi_succ (by omega) | exact ⟨rfl, fun j _ => set_lt _ i j⟩, ?_⟩; conv => whnf))
        · have hge : i = 7 := by have h2 := of_decide_eq_false hge; omega
          subst hge
          refine ⟨_, (up _ h).symm, ?_⟩
          conv => whnf
          repeat (first | exact trivial | exact fun _ _ h => h | (refine ⟨by first | exact ⟨rfl, rfl, rfl⟩ | rfl | exact ⟨rfl, rfl⟩ | exact ⟨rfl, fun _ _ => rfl⟩ | exact fun _ _ h => h | (intro _ _ h; cases h; done) | exact ⟨rfl, fun j hj => if_pos hj⟩, ?_⟩; conv => whnf))
    · conv => whnf
      refine ⟨Nat, fun i => i ≤ 7, fun i => ⟨55, [⟨0, [], .p 0 0⟩, ⟨6, [], .i .i64 i⟩], [], turnH 85 1 2 { n with log := n.log, role := 0, lead := lead, votes := 0, next := fun j => if j < i then 0 else n.next j, mat := fun j => if j < i then 0 else n.mat j } .own os, 3⟩, fun _ => m, fun i => 7 - i, ⟨0, rfl, Nat.zero_le _, ?_⟩, ?_⟩
      conv => whnf
      · conv => whnf
        repeat (first | exact trivial | (refine ⟨by first | exact ⟨rfl, rfl, rfl⟩ | rfl | exact ⟨rfl, rfl⟩ | exact ⟨rfl, fun _ _ => rfl⟩ | exact fun _ _ h => h | (intro _ _ h; cases h; done), ?_⟩; conv => whnf))
      · intro i hi
        refine ⟨fun hlt => ?_, fun hge => ?_⟩
        conv => whnf
        · have hlt : i < 7 := by have h2 := of_decide_eq_true hlt; omega
          repeat (first | exact trivial | (refine ⟨by first | exact ⟨rfl, rfl, rfl⟩ | rfl | exact ⟨rfl, rfl⟩ | exact ⟨rfl, fun _ _ => rfl⟩ | exact fun _ _ h => h | (intro _ _ h; cases h; done) | exact ⟨Int.natCast_nonneg _, by show (i : Int) < 7; omega⟩ | (show (i : Int).toNat < 7; omega), ?_⟩; conv => whnf))
          refine ⟨i + 1, rfl, ⟨hlt, by show 7 - (i + 1) < 7 - i; omega⟩, ?_⟩
          conv => whnf
          repeat (first | exact trivial | (refine ⟨by first | exact ⟨rfl, rfl, rfl⟩ | rfl | exact ⟨rfl, rfl⟩ | exact ⟨rfl, fun _ _ => rfl⟩ | exact fun _ _ h => h | (intro _ _ h; cases h; done) | exact wrapi_succ (by omega) | exact ⟨rfl, fun j _ => set_lt _ i j⟩, ?_⟩; conv => whnf))
        · have hge : i = 7 := by have h2 := of_decide_eq_false hge; omega
          subst hge
          refine ⟨_, (up _ h).symm, ?_⟩
          conv => whnf
          repeat (first | exact trivial | exact fun _ _ h => h | (refine ⟨by first | exact ⟨rfl, rfl, rfl⟩ | rfl | exact ⟨rfl, rfl⟩ | exact ⟨rfl, fun _ _ => rfl⟩ | exact fun _ _ h => h | (intro _ _ h; cases h; done) | exact ⟨rfl, fun j hj => if_pos hj⟩, ?_⟩; conv => whnf))
  | st A c =>
    conv => whnf
    refine ⟨fun h => ?_, fun h => ?_⟩
    conv => whnf
    · conv => whnf
      refine ⟨Nat, fun i => i ≤ 7, fun i => ⟨55, [⟨0, [], .p 0 0⟩, ⟨6, [], .i .i64 i⟩], [], turnH 85 1 2 { n with log := { n.log with term := term, vote := -1 }, role := 0, lead := lead, votes := 0, next := fun j => if j < i then 0 else n.next j, mat := fun j => if j < i then 0 else n.mat j } (.st A c) os, 3⟩, fun _ => m, fun i => 7 - i, ⟨0, rfl, Nat.zero_le _, ?_⟩, ?_⟩
      conv => whnf
      · conv => whnf
        repeat (first | exact trivial | (refine ⟨by first | exact ⟨rfl, rfl, rfl⟩ | rfl | exact ⟨rfl, rfl⟩ | exact ⟨rfl, fun _ _ => rfl⟩ | exact fun _ _ h => h | (intro _ _ h; cases h; done), ?_⟩; conv => whnf))
      · intro i hi
        refine ⟨fun hlt => ?_, fun hge => ?_⟩
        conv => whnf
        · have hlt : i < 7 := by have h2 := of_decide_eq_true hlt; omega
          repeat (first | exact trivial | (refine ⟨by first | exact ⟨rfl, rfl, rfl⟩ | rfl | exact ⟨rfl, rfl⟩ | exact ⟨rfl, fun _ _ => rfl⟩ | exact fun _ _ h => h | (intro _ _ h; cases h; done) | exact ⟨Int.natCast_nonneg _, by show (i : Int) < 7; omega⟩ | (show (i : Int).toNat < 7; omega), ?_⟩; conv => whnf))
          refine ⟨i + 1, rfl, ⟨hlt, by show 7 - (i + 1) < 7 - i; omega⟩, ?_⟩
          conv => whnf
          repeat (first | exact trivial | (refine ⟨by first | exact ⟨rfl, rfl, rfl⟩ | rfl | exact ⟨rfl, rfl⟩ | exact ⟨rfl, fun _ _ => rfl⟩ | exact fun _ _ h => h | (intro _ _ h; cases h; done) | exact wrapi_succ (by omega) | exact ⟨rfl, fun j _ => set_lt _ i j⟩, ?_⟩; conv => whnf))
        · have hge : i = 7 := by have h2 := of_decide_eq_false hge; omega
          subst hge
          refine ⟨_, (up _ h).symm, ?_⟩
          conv => whnf
          repeat (first | exact trivial | exact fun _ _ h => h | (refine ⟨by first | exact ⟨rfl, rfl, rfl⟩ | rfl | exact ⟨rfl, rfl⟩ | exact ⟨rfl, fun _ _ => rfl⟩ | exact fun _ _ h => h | (intro _ _ h; cases h; done) | exact ⟨rfl, fun j hj => if_pos hj⟩, ?_⟩; conv => whnf))
    · conv => whnf
      refine ⟨Nat, fun i => i ≤ 7, fun i => ⟨55, [⟨0, [], .p 0 0⟩, ⟨6, [], .i .i64 i⟩], [], turnH 85 1 2 { n with log := n.log, role := 0, lead := lead, votes := 0, next := fun j => if j < i then 0 else n.next j, mat := fun j => if j < i then 0 else n.mat j } (.st A c) os, 3⟩, fun _ => m, fun i => 7 - i, ⟨0, rfl, Nat.zero_le _, ?_⟩, ?_⟩
      conv => whnf
      · conv => whnf
        repeat (first | exact trivial | (refine ⟨by first | exact ⟨rfl, rfl, rfl⟩ | rfl | exact ⟨rfl, rfl⟩ | exact ⟨rfl, fun _ _ => rfl⟩ | exact fun _ _ h => h | (intro _ _ h; cases h; done), ?_⟩; conv => whnf))
      · intro i hi
        refine ⟨fun hlt => ?_, fun hge => ?_⟩
        conv => whnf
        · have hlt : i < 7 := by have h2 := of_decide_eq_true hlt; omega
          repeat (first | exact trivial | (refine ⟨by first | exact ⟨rfl, rfl, rfl⟩ | rfl | exact ⟨rfl, rfl⟩ | exact ⟨rfl, fun _ _ => rfl⟩ | exact fun _ _ h => h | (intro _ _ h; cases h; done) | exact ⟨Int.natCast_nonneg _, by show (i : Int) < 7; omega⟩ | (show (i : Int).toNat < 7; omega), ?_⟩; conv => whnf))
          refine ⟨i + 1, rfl, ⟨hlt, by show 7 - (i + 1) < 7 - i; omega⟩, ?_⟩
          conv => whnf
          repeat (first | exact trivial | (refine ⟨by first | exact ⟨rfl, rfl, rfl⟩ | rfl | exact ⟨rfl, rfl⟩ | exact ⟨rfl, fun _ _ => rfl⟩ | exact fun _ _ h => h | (intro _ _ h; cases h; done) | exact wrapi_succ (by omega) | exact ⟨rfl, fun j _ => set_lt _ i j⟩, ?_⟩; conv => whnf))
        · have hge : i = 7 := by have h2 := of_decide_eq_false hge; omega
          subst hge
          refine ⟨_, (up _ h).symm, ?_⟩
          conv => whnf
          repeat (first | exact trivial | exact fun _ _ h => h | (refine ⟨by first | exact ⟨rfl, rfl, rfl⟩ | rfl | exact ⟨rfl, rfl⟩ | exact ⟨rfl, fun _ _ => rfl⟩ | exact fun _ _ h => h | (intro _ _ h; cases h; done) | exact ⟨rfl, fun j hj => if_pos hj⟩, ?_⟩; conv => whnf))
  | wide ys =>
    conv => whnf
    refine ⟨fun h => ?_, fun h => ?_⟩
    conv => whnf
    · conv => whnf
      refine ⟨Nat, fun i => i ≤ 7, fun i => ⟨55, [⟨0, [], .p 0 0⟩, ⟨6, [], .i .i64 i⟩], [], turnH 85 1 2 { n with log := { n.log with term := term, vote := -1 }, role := 0, lead := lead, votes := 0, next := fun j => if j < i then 0 else n.next j, mat := fun j => if j < i then 0 else n.mat j } (.wide ys) os, 3⟩, fun _ => m, fun i => 7 - i, ⟨0, rfl, Nat.zero_le _, ?_⟩, ?_⟩
      conv => whnf
      · conv => whnf
        repeat (first | exact trivial | (refine ⟨by first | exact ⟨rfl, rfl, rfl⟩ | rfl | exact ⟨rfl, rfl⟩ | exact ⟨rfl, fun _ _ => rfl⟩ | exact fun _ _ h => h | (intro _ _ h; cases h; done), ?_⟩; conv => whnf))
      · intro i hi
        refine ⟨fun hlt => ?_, fun hge => ?_⟩
        conv => whnf
        · have hlt : i < 7 := by have h2 := of_decide_eq_true hlt; omega
          repeat (first | exact trivial | (refine ⟨by first | exact ⟨rfl, rfl, rfl⟩ | rfl | exact ⟨rfl, rfl⟩ | exact ⟨rfl, fun _ _ => rfl⟩ | exact fun _ _ h => h | (intro _ _ h; cases h; done) | exact ⟨Int.natCast_nonneg _, by show (i : Int) < 7; omega⟩ | (show (i : Int).toNat < 7; omega), ?_⟩; conv => whnf))
          refine ⟨i + 1, rfl, ⟨hlt, by show 7 - (i + 1) < 7 - i; omega⟩, ?_⟩
          conv => whnf
          repeat (first | exact trivial | (refine ⟨by first | exact ⟨rfl, rfl, rfl⟩ | rfl | exact ⟨rfl, rfl⟩ | exact ⟨rfl, fun _ _ => rfl⟩ | exact fun _ _ h => h | (intro _ _ h; cases h; done) | exact wrapi_succ (by omega) | exact ⟨rfl, fun j _ => set_lt _ i j⟩, ?_⟩; conv => whnf))
        · have hge : i = 7 := by have h2 := of_decide_eq_false hge; omega
          subst hge
          refine ⟨_, (up _ h).symm, ?_⟩
          conv => whnf
          repeat (first | exact trivial | exact fun _ _ h => h | (refine ⟨by first | exact ⟨rfl, rfl, rfl⟩ | rfl | exact ⟨rfl, rfl⟩ | exact ⟨rfl, fun _ _ => rfl⟩ | exact fun _ _ h => h | (intro _ _ h; cases h; done) | exact ⟨rfl, fun j hj => if_pos hj⟩, ?_⟩; conv => whnf))
    · conv => whnf
      refine ⟨Nat, fun i => i ≤ 7, fun i => ⟨55, [⟨0, [], .p 0 0⟩, ⟨6, [], .i .i64 i⟩], [], turnH 85 1 2 { n with log := n.log, role := 0, lead := lead, votes := 0, next := fun j => if j < i then 0 else n.next j, mat := fun j => if j < i then 0 else n.mat j } (.wide ys) os, 3⟩, fun _ => m, fun i => 7 - i, ⟨0, rfl, Nat.zero_le _, ?_⟩, ?_⟩
      conv => whnf
      · conv => whnf
        repeat (first | exact trivial | (refine ⟨by first | exact ⟨rfl, rfl, rfl⟩ | rfl | exact ⟨rfl, rfl⟩ | exact ⟨rfl, fun _ _ => rfl⟩ | exact fun _ _ h => h | (intro _ _ h; cases h; done), ?_⟩; conv => whnf))
      · intro i hi
        refine ⟨fun hlt => ?_, fun hge => ?_⟩
        conv => whnf
        · have hlt : i < 7 := by have h2 := of_decide_eq_true hlt; omega
          repeat (first | exact trivial | (refine ⟨by first | exact ⟨rfl, rfl, rfl⟩ | rfl | exact ⟨rfl, rfl⟩ | exact ⟨rfl, fun _ _ => rfl⟩ | exact fun _ _ h => h | (intro _ _ h; cases h; done) | exact ⟨Int.natCast_nonneg _, by show (i : Int) < 7; omega⟩ | (show (i : Int).toNat < 7; omega), ?_⟩; conv => whnf))
          refine ⟨i + 1, rfl, ⟨hlt, by show 7 - (i + 1) < 7 - i; omega⟩, ?_⟩
          conv => whnf
          repeat (first | exact trivial | (refine ⟨by first | exact ⟨rfl, rfl, rfl⟩ | rfl | exact ⟨rfl, rfl⟩ | exact ⟨rfl, fun _ _ => rfl⟩ | exact fun _ _ h => h | (intro _ _ h; cases h; done) | exact wrapi_succ (by omega) | exact ⟨rfl, fun j _ => set_lt _ i j⟩, ?_⟩; conv => whnf))
        · have hge : i = 7 := by have h2 := of_decide_eq_false hge; omega
          subst hge
          refine ⟨_, (up _ h).symm, ?_⟩
          conv => whnf
          repeat (first | exact trivial | exact fun _ _ h => h | (refine ⟨by first | exact ⟨rfl, rfl, rfl⟩ | rfl | exact ⟨rfl, rfl⟩ | exact ⟨rfl, fun _ _ => rfl⟩ | exact fun _ _ h => h | (intro _ _ h; cases h; done) | exact ⟨rfl, fun j hj => if_pos hj⟩, ?_⟩; conv => whnf))
end Go.Proofs.Ytjpjiniclibgkaa.Sx

namespace Go.Proofs.Ytjpjiniclibgkaa.Sx
open Go

structure Fit (n : Node) : Prop where
  s1 : 1 ≤ n.size
  s2 : n.size ≤ 7
  m1 : 0 ≤ n.me
  m2 : n.me < n.size
  b1 : 0 ≤ n.log.base
  b2 : n.log.base ≤ 2 ^ 41
  l : n.log.items.length ≤ 300
  c1 : 0 ≤ n.commit
  c2 : n.commit ≤ 2 ^ 42
theorem last_fit {n : Node} (h : Fit n) : (lastN n.log).1 = n.log.base + n.log.items.length := by
  have h1 := h.b1
  have h2 := h.b2
  have h3 := h.l
  cases hz : n.log.items.length with
  | zero => rw [lastN_zero hz]; simp
  | succ k =>
    have hx : n.log.items[n.log.items.length - 1]? = some (n.log.items[n.log.items.length - 1]'(by omega)) := List.getElem?_eq_getElem _
    rw [lastN_pos hx, wrapi ⟨by omega, by omega⟩]
    show n.log.base + (n.log.items.length : Int) = _
    rw [hz]
/-- How many of the first s have at least i. -/
def haveN (n : Node) (i : Int) (s : Nat) : Nat := ((List.range s).filter fun k => decide (n.mat k ≥ i)).length
theorem have_snoc (n : Node) (i : Int) (s : Nat) : haveN n i (s + 1) = haveN n i s + if decide (n.mat s ≥ i) = true then 1 else 0 := by
  unfold haveN
  rw [List.range_succ, List.filter_append, List.length_append]
  congr 1
  by_cases h : decide (n.mat s ≥ i) = true
  · rw [if_pos h]; simp only [List.filter, h]; rfl
  · rw [if_neg h]; have h' : decide (n.mat s ≥ i) = false := by simpa using h
    simp only [List.filter, h']; rfl
theorem have_le (n : Node) (i : Int) (s : Nat) : haveN n i s ≤ s := by
  unfold haveN
  have := List.length_filter_le (fun k => decide (n.mat k ≥ i)) (List.range s)
  simpa using this
def commitGo (n : Node) : Nat → Int
  | 0 => n.commit
  | k + 1 => if (termAtN n.log (n.commit + ((k + 1 : Nat) : Int))).1 ≠ n.log.term then n.commit else if 2 * (haveN n (n.commit + ((k + 1 : Nat) : Int)) n.size.toNat : Int) > n.size then n.commit + ((k + 1 : Nat) : Int) else commitGo n k
def commitN (n : Node) : Int := commitGo n ((lastN n.log).1 - n.commit).toNat
theorem go_at {n : Node} {i : Int} (h : n.commit < i) : commitGo n (i - n.commit).toNat = if (termAtN n.log i).1 ≠ n.log.term then n.commit else if 2 * (haveN n i n.size.toNat : Int) > n.size then i else commitGo n (i - 1 - n.commit).toNat := by
  obtain ⟨k, hk⟩ : ∃ k, (i - n.commit).toNat = k + 1 := ⟨(i - n.commit).toNat - 1, by omega⟩
  have hi : n.commit + ((k + 1 : Nat) : Int) = i := by omega
  have hk2 : (i - 1 - n.commit).toNat = k := by omega
  rw [hk, hk2, commitGo, hi]
/-- A log whose entries of the newest term stand last. -/
def Mono (n : Node) : Prop := ∀ i j, n.commit < i → i ≤ j → j ≤ (lastN n.log).1 → (termAtN n.log i).1 = n.log.term → (termAtN n.log j).1 = n.log.term
structure TurnG where
  n : Node
  M : Mode
  os : List OMsg
  m : Mem
def commitSpec (t : TypeId) : Spec where
  A := TurnG
  R := fun ⟨n, M, _, m⟩ => Fit n ∧ Mono n ∧ M.ok m n.log.items
  J := fun ⟨_, _, _, m⟩ => m
  args := fun _ => [.p 0 0]
  h := fun ⟨n, M, os, _⟩ => turnH t 1 2 n M os
  nx := 3
  Bb := Node
  C := fun ⟨n, _, _, _⟩ b => b = { n with commit := commitN n }
  out := fun _ _ => .ret (.t [])
  h2 := fun ⟨_, M, os, _⟩ b => turnH t 3 4 b M os
  nx2 := 5
set_option maxRecDepth 100000 in
set_option maxHeartbeats 1600000 in
theorem commit_ok : SpecOk Try.prog 72 (commitSpec 78) := by
  refine spec_of_exec (fn := Try.f72) (c := Try.f72.body.getD .skip) (d := 2) (lv := ([0, 2, 4, 5, 7, 8, 25, 45, 50, 51, 52, 62, 73])) (DP := DPx T1 (CPs S3) ([0, 2, 4, 5, 7, 8, 25, 45, 50, 51, 52, 62, 73])) T1_ok S3_ok (fun B => DPx_ok T1_ok ord S3_ok B) (commitSpec 78) (by rfl) (by rfl) (by rfl) (fun _ => Nat.le_of_ble_eq_true (by kernel_rfl)) ?_
  rintro ⟨n, M, os, m⟩ ⟨hf, hmono, hM⟩
  obtain ⟨hs1, hs2, hm1, hm2, hb1, hb2, hl, hc1, hc2⟩ := hf
  have hlast := last_fit ⟨hs1, hs2, hm1, hm2, hb1, hb2, hl, hc1, hc2⟩
  cases M with
  | own =>
    conv => whnf
    intro A' cap m' hS
    refine ⟨⟨n.log, A', cap, m'⟩, ⟨.of_sealed hS, by show n.log.items.length < 2 ^ 62; omega⟩, ?_⟩
    conv => whnf
    repeat (first | exact trivial | (refine ⟨by first | exact ⟨rfl, rfl, rfl⟩ | rfl | exact ⟨rfl, rfl⟩ | exact ⟨rfl, fun _ _ => rfl⟩ | exact fun _ _ h => h | (intro _ _ h; cases h; done), ?_⟩; conv => whnf))
    intro _ _
    refine ⟨Int, fun i => i ≤ (lastN n.log).1 ∧ commitGo n (i - n.commit).toNat = commitN n, fun i => ⟨79, [⟨0, [], .p 0 0⟩, ⟨4, [], .i .i64 i⟩], [], turnH 78 1 2 n .own os, 3⟩, fun _ => m, fun i => (i - n.commit).toNat, ⟨_, rfl, ⟨Int.le_refl _, rfl⟩, ?_⟩, ?_⟩
    conv => whnf
    · conv => whnf
      repeat (first | exact trivial | (refine ⟨by first | exact ⟨rfl, rfl, rfl⟩ | rfl | exact ⟨rfl, rfl⟩ | exact ⟨rfl, fun _ _ => rfl⟩ | exact fun _ _ h => h | (intro _ _ h; cases h; done), ?_⟩; conv => whnf))
    · rintro i ⟨hi, hgo⟩
      refine ⟨fun hlt => ?_, fun hge => ?_⟩
      conv => whnf
      · have hlt : n.commit < i := of_decide_eq_true hlt
        have hat := go_at hlt
        rw [hgo] at hat
        conv => whnf
        intro A2 cap2 m2 hS2
        refine ⟨⟨n.log, A2, cap2, i, m2⟩, ⟨.of_sealed hS2, by show n.log.items.length < 2 ^ 62; omega, ⟨by omega, by omega⟩, ⟨by omega, by omega⟩⟩, ?_⟩
        conv => whnf
        repeat (first | exact trivial | (refine ⟨by first | exact ⟨rfl, rfl, rfl⟩ | rfl | exact ⟨rfl, rfl⟩ | exact ⟨rfl, fun _ _ => rfl⟩ | exact fun _ _ h => h | (intro _ _ h; cases h; done), ?_⟩; conv => whnf))
        intro _ _
        refine ⟨fun hne => ?_, fun heq => ?_⟩
        conv => whnf
        · have hne : (termAtN n.log i).1 ≠ n.log.term := by simpa using hne
          rw [if_pos hne] at hat
          refine ⟨_, rfl, ?_⟩
          conv => whnf
          repeat (first | exact trivial | exact fun _ _ h => h | (refine ⟨by first | exact ⟨rfl, rfl, rfl⟩ | rfl | exact ⟨rfl, rfl⟩ | exact ⟨rfl, fun _ _ => rfl⟩ | exact fun _ _ h => h | (intro _ _ h; cases h; done) | exact hat.symm, ?_⟩; conv => whnf))
        · have heq : (termAtN n.log i).1 = n.log.term := by simpa using heq
          rw [if_neg (fun h => h heq)] at hat
          refine ⟨Nat, fun j => (j : Int) ≤ n.size, fun j => ⟨79, [⟨0, [], .p 0 0⟩, ⟨4, [], .i .i64 i⟩, ⟨7, [], .i .i64 (haveN n i j)⟩, ⟨50, [], .i .i64 n.size⟩, ⟨51, [], .i .i64 j⟩], [], turnH 78 1 2 n .own os, 3⟩, fun _ => m, fun j => n.size.toNat - j, ⟨0, rfl, by show (0 : Int) ≤ _; omega, ?_⟩, ?_⟩
          conv => whnf
          · conv => whnf
            repeat (first | exact trivial | (refine ⟨by first | exact ⟨rfl, rfl, rfl⟩ | rfl | exact ⟨rfl, rfl⟩ | exact ⟨rfl, fun _ _ => rfl⟩ | exact fun _ _ h => h | (intro _ _ h; cases h; done), ?_⟩; conv => whnf))
          · intro j hj
            refine ⟨fun hlt2 => ?_, fun hge2 => ?_⟩
            conv => whnf
            · have hlt2 : (j : Int) < n.size := of_decide_eq_true hlt2
              have hle := have_le n i j
              have hsn := have_snoc n i j
              repeat (first | exact trivial | (refine ⟨by first | exact ⟨rfl, rfl, rfl⟩ | rfl | exact ⟨rfl, rfl⟩ | exact ⟨rfl, fun _ _ => rfl⟩ | exact fun _ _ h => h | (intro _ _ h; cases h; done) | exact ⟨Int.natCast_nonneg _, by show (j : Int) < 7; omega⟩ | (show (j : Int).toNat < 7; omega), ?_⟩; conv => whnf))
              refine ⟨fun hb => ?_, fun hb => ?_⟩
              · have hb : decide (n.mat j ≥ i) = true := hb
                rw [if_pos hb] at hsn
                refine ⟨j + 1, rfl, ⟨by show ((j + 1 : Nat) : Int) ≤ _; omega, by show n.size.toNat - (j + 1) < n.size.toNat - j; omega⟩, ?_⟩
                conv => whnf
                repeat (first | exact trivial | (refine ⟨by first | exact ⟨rfl, rfl, rfl⟩ | rfl | exact ⟨rfl, rfl⟩ | exact ⟨rfl, fun _ _ => rfl⟩ | exact fun _ _ h => h | (intro _ _ h; cases h; done) | exact wrapi_succ (by omega) | (rw [hsn]; exact wrapi_succ (by omega)), ?_⟩; conv => whnf))
              · have hb : decide (n.mat j ≥ i) = false := hb
                rw [if_neg (by intro e; rw [e] at hb; cases hb)] at hsn
                refine ⟨j + 1, rfl, ⟨by show ((j + 1 : Nat) : Int) ≤ _; omega, by show n.size.toNat - (j + 1) < n.size.toNat - j; omega⟩, ?_⟩
                conv => whnf
                repeat (first | exact trivial | (refine ⟨by first | exact ⟨rfl, rfl, rfl⟩ | rfl | exact ⟨rfl, rfl⟩ | exact ⟨rfl, fun _ _ => rfl⟩ | exact fun _ _ h => h | (intro _ _ h; cases h; done) | exact wrapi_succ (by omega) | (rw [hsn]; rfl), ?_⟩; conv => whnf))
            · have hge2 : ¬ (j : Int) < n.size := of_decide_eq_false hge2
              have hjs : n.size.toNat = j := by omega
              have hle := have_le n i j
              have hw : IntKind.i64.wrap (2 * (haveN n i j : Int)) = 2 * (haveN n i j : Int) := wrapi ⟨by omega, by omega⟩
              rw [hjs] at hat
              conv => whnf
              rw [hw]
              refine ⟨fun hm => ?_, fun hm => ?_⟩
              · have hm : 2 * (haveN n i j : Int) > n.size := of_decide_eq_true hm
                rw [if_pos hm] at hat
                refine ⟨_, rfl, ?_⟩
                conv => whnf
                repeat (first | exact trivial | exact fun _ _ h => h | (refine ⟨by first | exact ⟨rfl, rfl, rfl⟩ | rfl | exact ⟨rfl, rfl⟩ | exact ⟨rfl, fun _ _ => rfl⟩ | exact fun _ _ h => h | (intro _ _ h; cases h; done) | exact hat.symm, ?_⟩; conv => whnf))
              · have hm : ¬ 2 * (haveN n i j : Int) > n.size := of_decide_eq_false hm
                rw [if_neg hm] at hat
                have hw2 : IntKind.i64.wrap (i - 1) = i - 1 := wrapi ⟨by omega, by omega⟩
                refine ⟨i - 1, rfl, ⟨⟨by omega, hat.symm⟩, by show (i - 1 - n.commit).toNat < (i - n.commit).toNat; omega⟩, ?_⟩
                conv => whnf
                repeat (first | exact trivial | (refine ⟨by first | exact ⟨rfl, rfl, rfl⟩ | rfl | exact ⟨rfl, rfl⟩ | exact ⟨rfl, fun _ _ => rfl⟩ | exact fun _ _ h => h | (intro _ _ h; cases h; done) | exact hw2, ?_⟩; conv => whnf))
      · have hge : ¬ i > n.commit := of_decide_eq_false hge
        have hz : (i - n.commit).toNat = 0 := by omega
        rw [hz] at hgo
        refine ⟨_, rfl, ?_⟩
        conv => whnf
        repeat (first | exact trivial | exact fun _ _ h => h | (refine ⟨by first | exact ⟨rfl, rfl, rfl⟩ | rfl | exact ⟨rfl, rfl⟩ | exact ⟨rfl, fun _ _ => rfl⟩ | exact fun _ _ h => h | (intro _ _ h; cases h; done) | exact hgo, ?_⟩; conv => whnf))
  | st A c =>
    conv => whnf
    refine ⟨⟨n.log, A, c, m⟩, ⟨hM, by show n.log.items.length < 2 ^ 62; omega⟩, ?_⟩
    conv => whnf
    repeat (first | exact trivial | (refine ⟨by first | exact ⟨rfl, rfl, rfl⟩ | rfl | exact ⟨rfl, rfl⟩ | exact ⟨rfl, fun _ _ => rfl⟩ | exact fun _ _ h => h | (intro _ _ h; cases h; done), ?_⟩; conv => whnf))
    intro _ _
    refine ⟨Int, fun i => i ≤ (lastN n.log).1 ∧ commitGo n (i - n.commit).toNat = commitN n, fun i => ⟨79, [⟨0, [], .p 0 0⟩, ⟨4, [], .i .i64 i⟩], [], turnH 78 1 2 n (.st A c) os, 3⟩, fun _ => m, fun i => (i - n.commit).toNat, ⟨_, rfl, ⟨Int.le_refl _, rfl⟩, ?_⟩, ?_⟩
    conv => whnf
    · conv => whnf
      repeat (first | exact trivial | (refine ⟨by first | exact ⟨rfl, rfl, rfl⟩ | rfl | exact ⟨rfl, rfl⟩ | exact ⟨rfl, fun _ _ => rfl⟩ | exact fun _ _ h => h | (intro _ _ h; cases h; done), ?_⟩; conv => whnf))
    · rintro i ⟨hi, hgo⟩
      refine ⟨fun hlt => ?_, fun hge => ?_⟩
      conv => whnf
      · have hlt : n.commit < i := of_decide_eq_true hlt
        have hat := go_at hlt
        rw [hgo] at hat
        conv => whnf
        skip
        refine ⟨⟨n.log, A, c, i, m⟩, ⟨hM, by show n.log.items.length < 2 ^ 62; omega, ⟨by omega, by omega⟩, ⟨by omega, by omega⟩⟩, ?_⟩
        conv => whnf
        repeat (first | exact trivial | (refine ⟨by first | exact ⟨rfl, rfl, rfl⟩ | rfl | exact ⟨rfl, rfl⟩ | exact ⟨rfl, fun _ _ => rfl⟩ | exact fun _ _ h => h | (intro _ _ h; cases h; done), ?_⟩; conv => whnf))
        intro _ _
        refine ⟨fun hne => ?_, fun heq => ?_⟩
        conv => whnf
        · have hne : (termAtN n.log i).1 ≠ n.log.term := by simpa using hne
          rw [if_pos hne] at hat
          refine ⟨_, rfl, ?_⟩
          conv => whnf
          repeat (first | exact trivial | exact fun _ _ h => h | (refine ⟨by first | exact ⟨rfl, rfl, rfl⟩ | rfl | exact ⟨rfl, rfl⟩ | exact ⟨rfl, fun _ _ => rfl⟩ | exact fun _ _ h => h | (intro _ _ h; cases h; done) | exact hat.symm, ?_⟩; conv => whnf))
        · have heq : (termAtN n.log i).1 = n.log.term := by simpa using heq
          rw [if_neg (fun h => h heq)] at hat
          refine ⟨Nat, fun j => (j : Int) ≤ n.size, fun j => ⟨79, [⟨0, [], .p 0 0⟩, ⟨4, [], .i .i64 i⟩, ⟨7, [], .i .i64 (haveN n i j)⟩, ⟨50, [], .i .i64 n.size⟩, ⟨51, [], .i .i64 j⟩], [], turnH 78 1 2 n (.st A c) os, 3⟩, fun _ => m, fun j => n.size.toNat - j, ⟨0, rfl, by show (0 : Int) ≤ _; omega, ?_⟩, ?_⟩
          conv => whnf
          · conv => whnf
            repeat (first | exact trivial | (refine ⟨by first | exact ⟨rfl, rfl, rfl⟩ | rfl | exact ⟨rfl, rfl⟩ | exact ⟨rfl, fun _ _ => rfl⟩ | exact fun _ _ h => h | (intro _ _ h; cases h; done), ?_⟩; conv => whnf))
          · intro j hj
            refine ⟨fun hlt2 => ?_, fun hge2 => ?_⟩
            conv => whnf
            · have hlt2 : (j : Int) < n.size := of_decide_eq_true hlt2
              have hle := have_le n i j
              have hsn := have_snoc n i j
              repeat (first | exact trivial | (refine ⟨by first | exact ⟨rfl, rfl, rfl⟩ | rfl | exact ⟨rfl, rfl⟩ | exact ⟨rfl, fun _ _ => rfl⟩ | exact fun _ _ h => h | (intro _ _ h; cases h; done) | exact ⟨Int.natCast_nonneg _, by show (j : Int) < 7; omega⟩ | (show (j : Int).toNat < 7; omega), ?_⟩; conv => whnf))
              refine ⟨fun hb => ?_, fun hb => ?_⟩
              · have hb : decide (n.mat j ≥ i) = true := hb
                rw [if_pos hb] at hsn
                refine ⟨j + 1, rfl, ⟨by show ((j + 1 : Nat) : Int) ≤ _; omega, by show n.size.toNat - (j + 1) < n.size.toNat - j; omega⟩, ?_⟩
                conv => whnf
                repeat (first | exact trivial | (refine ⟨by first | exact ⟨rfl, rfl, rfl⟩ | rfl | exact ⟨rfl, rfl⟩ | exact ⟨rfl, fun _ _ => rfl⟩ | exact fun _ _ h => h | (intro _ _ h; cases h; done) | exact wrapi_succ (by omega) | (rw [hsn]; exact wrapi_succ (by omega)), ?_⟩; conv => whnf))
              · have hb : decide (n.mat j ≥ i) = false := hb
                rw [if_neg (by intro e; rw [e] at hb; cases hb)] at hsn
                refine ⟨j + 1, rfl, ⟨by show ((j + 1 : Nat) : Int) ≤ _; omega, by show n.size.toNat - (j + 1) < n.size.toNat - j; omega⟩, ?_⟩
                conv => whnf
                repeat (first | exact trivial | (refine ⟨by first | exact ⟨rfl, rfl, rfl⟩ | rfl | exact ⟨rfl, rfl⟩ | exact ⟨rfl, fun _ _ => rfl⟩ | exact fun _ _ h => h | (intro _ _ h; cases h; done) | exact wrapi_succ (by omega) | (rw [hsn]; rfl), ?_⟩; conv => whnf))
            · have hge2 : ¬ (j : Int) < n.size := of_decide_eq_false hge2
              have hjs : n.size.toNat = j := by omega
              have hle := have_le n i j
              have hw : IntKind.i64.wrap (2 * (haveN n i j : Int)) = 2 * (haveN n i j : Int) := wrapi ⟨by omega, by omega⟩
              rw [hjs] at hat
              conv => whnf
              rw [hw]
              refine ⟨fun hm => ?_, fun hm => ?_⟩
              · have hm : 2 * (haveN n i j : Int) > n.size := of_decide_eq_true hm
                rw [if_pos hm] at hat
                refine ⟨_, rfl, ?_⟩
                conv => whnf
                repeat (first | exact trivial | exact fun _ _ h => h | (refine ⟨by first | exact ⟨rfl, rfl, rfl⟩ | rfl | exact ⟨rfl, rfl⟩ | exact ⟨rfl, fun _ _ => rfl⟩ | exact fun _ _ h => h | (intro _ _ h; cases h; done) | exact hat.symm, ?_⟩; conv => whnf))
              · have hm : ¬ 2 * (haveN n i j : Int) > n.size := of_decide_eq_false hm
                rw [if_neg hm] at hat
                have hw2 : IntKind.i64.wrap (i - 1) = i - 1 := wrapi ⟨by omega, by omega⟩
                refine ⟨i - 1, rfl, ⟨⟨by omega, hat.symm⟩, by show (i - 1 - n.commit).toNat < (i - n.commit).toNat; omega⟩, ?_⟩
                conv => whnf
                repeat (first | exact trivial | (refine ⟨by first | exact ⟨rfl, rfl, rfl⟩ | rfl | exact ⟨rfl, rfl⟩ | exact ⟨rfl, fun _ _ => rfl⟩ | exact fun _ _ h => h | (intro _ _ h; cases h; done) | exact hw2, ?_⟩; conv => whnf))
      · have hge : ¬ i > n.commit := of_decide_eq_false hge
        have hz : (i - n.commit).toNat = 0 := by omega
        rw [hz] at hgo
        refine ⟨_, rfl, ?_⟩
        conv => whnf
        repeat (first | exact trivial | exact fun _ _ h => h | (refine ⟨by first | exact ⟨rfl, rfl, rfl⟩ | rfl | exact ⟨rfl, rfl⟩ | exact ⟨rfl, fun _ _ => rfl⟩ | exact fun _ _ h => h | (intro _ _ h; cases h; done) | exact hgo, ?_⟩; conv => whnf))
  | wide ys =>
    conv => whnf
    intro A' cap m' hS
    refine ⟨⟨n.log, A', cap, m'⟩, ⟨wide_cells hM hS, by show n.log.items.length < 2 ^ 62; omega⟩, ?_⟩
    conv => whnf
    repeat (first | exact trivial | (refine ⟨by first | exact ⟨rfl, rfl, rfl⟩ | rfl | exact ⟨rfl, rfl⟩ | exact ⟨rfl, fun _ _ => rfl⟩ | exact fun _ _ h => h | (intro _ _ h; cases h; done), ?_⟩; conv => whnf))
    intro _ _
    refine ⟨Int, fun i => i ≤ (lastN n.log).1 ∧ commitGo n (i - n.commit).toNat = commitN n, fun i => ⟨79, [⟨0, [], .p 0 0⟩, ⟨4, [], .i .i64 i⟩], [], turnH 78 1 2 n (.wide ys) os, 3⟩, fun _ => m, fun i => (i - n.commit).toNat, ⟨_, rfl, ⟨Int.le_refl _, rfl⟩, ?_⟩, ?_⟩
    conv => whnf
    · conv => whnf
      repeat (first | exact trivial | (refine ⟨by first | exact ⟨rfl, rfl, rfl⟩ | rfl | exact ⟨rfl, rfl⟩ | exact ⟨rfl, fun _ _ => rfl⟩ | exact fun _ _ h => h | (intro _ _ h; cases h; done), ?_⟩; conv => whnf))
    · rintro i ⟨hi, hgo⟩
      refine ⟨fun hlt => ?_, fun hge => ?_⟩
      conv => whnf
      · have hlt : n.commit < i := of_decide_eq_true hlt
        have hat := go_at hlt
        rw [hgo] at hat
        conv => whnf
        intro A2 cap2 m2 hS2
        refine ⟨⟨n.log, A2, cap2, i, m2⟩, ⟨wide_cells hM hS2, by show n.log.items.length < 2 ^ 62; omega, ⟨by omega, by omega⟩, ⟨by omega, by omega⟩⟩, ?_⟩
        conv => whnf
        repeat (first | exact trivial | (refine ⟨by first | exact ⟨rfl, rfl, rfl⟩ | rfl | exact ⟨rfl, rfl⟩ | exact ⟨rfl, fun _ _ => rfl⟩ | exact fun _ _ h => h | (intro _ _ h; cases h; done), ?_⟩; conv => whnf))
        intro _ _
        refine ⟨fun hne => ?_, fun heq => ?_⟩
        conv => whnf
        · have hne : (termAtN n.log i).1 ≠ n.log.term := by simpa using hne
          rw [if_pos hne] at hat
          refine ⟨_, rfl, ?_⟩
          conv => whnf
          repeat (first | exact trivial | exact fun _ _ h => h | (refine ⟨by first | exact ⟨rfl, rfl, rfl⟩ | rfl | exact ⟨rfl, rfl⟩ | exact ⟨rfl, fun _ _ => rfl⟩ | exact fun _ _ h => h | (intro _ _ h; cases h; done) | exact hat.symm, ?_⟩; conv => whnf))
        · have heq : (termAtN n.log i).1 = n.log.term := by simpa using heq
          rw [if_neg (fun h => h heq)] at hat
          refine ⟨Nat, fun j => (j : Int) ≤ n.size, fun j => ⟨79, [⟨0, [], .p 0 0⟩, ⟨4, [], .i .i64 i⟩, ⟨7, [], .i .i64 (haveN n i j)⟩, ⟨50, [], .i .i64 n.size⟩, ⟨51, [], .i .i64 j⟩], [], turnH 78 1 2 n (.wide ys) os, 3⟩, fun _ => m, fun j => n.size.toNat - j, ⟨0, rfl, by show (0 : Int) ≤ _; omega, ?_⟩, ?_⟩
          conv => whnf
          · conv => whnf
            repeat (first | exact trivial | (refine ⟨by first | exact ⟨rfl, rfl, rfl⟩ | rfl | exact ⟨rfl, rfl⟩ | exact ⟨rfl, fun _ _ => rfl⟩ | exact fun _ _ h => h | (intro _ _ h; cases h; done), ?_⟩; conv => whnf))
          · intro j hj
            refine ⟨fun hlt2 => ?_, fun hge2 => ?_⟩
            conv => whnf
            · have hlt2 : (j : Int) < n.size := of_decide_eq_true hlt2
              have hle := have_le n i j
              have hsn := have_snoc n i j
              repeat (first | exact trivial | (refine ⟨by first | exact ⟨rfl, rfl, rfl⟩ | rfl | exact ⟨rfl, rfl⟩ | exact ⟨rfl, fun _ _ => rfl⟩ | exact fun _ _ h => h | (intro _ _ h; cases h; done) | exact ⟨Int.natCast_nonneg _, by show (j : Int) < 7; omega⟩ | (show (j : Int).toNat < 7; omega), ?_⟩; conv => whnf))
              refine ⟨fun hb => ?_, fun hb => ?_⟩
              · have hb : decide (n.mat j ≥ i) = true := hb
                rw [if_pos hb] at hsn
                refine ⟨j + 1, rfl, ⟨by show ((j + 1 : Nat) : Int) ≤ _; omega, by show n.size.toNat - (j + 1) < n.size.toNat - j; omega⟩, ?_⟩
                conv => whnf
                repeat (first | exact trivial | (refine ⟨by first | exact ⟨rfl, rfl, rfl⟩ | rfl | exact ⟨rfl, rfl⟩ | exact ⟨rfl, fun _ _ => rfl⟩ | exact fun _ _ h => h | (intro _ _ h; cases h; done) | exact wrapi_succ (by omega) | (rw [hsn]; exact wrapi_succ (by omega)), ?_⟩; conv => whnf))
              · have hb : decide (n.mat j ≥ i) = false := hb
                rw [if_neg (by intro e; rw [e] at hb; cases hb)] at hsn
                refine ⟨j + 1, rfl, ⟨by show ((j + 1 : Nat) : Int) ≤ _; omega, by show n.size.toNat - (j + 1) < n.size.toNat - j; omega⟩, ?_⟩
                conv => whnf
                repeat (first | exact trivial | (refine ⟨by first | exact ⟨rfl, rfl, rfl⟩ | rfl | exact ⟨rfl, rfl⟩ | exact ⟨rfl, fun _ _ => rfl⟩ | exact fun _ _ h => h | (intro _ _ h; cases h; done) | exact wrapi_succ (by omega) | (rw [hsn]; rfl), ?_⟩; conv => whnf))
            · have hge2 : ¬ (j : Int) < n.size := of_decide_eq_false hge2
              have hjs : n.size.toNat = j := by omega
              have hle := have_le n i j
              have hw : IntKind.i64.wrap (2 * (haveN n i j : Int)) = 2 * (haveN n i j : Int) := wrapi ⟨by omega, by omega⟩
              rw [hjs] at hat
              conv => whnf
              rw [hw]
              refine ⟨fun hm => ?_, fun hm => ?_⟩
              · have hm : 2 * (haveN n i j : Int) > n.size := of_decide_eq_true hm
                rw [if_pos hm] at hat
                refine ⟨_, rfl, ?_⟩
                conv => whnf
                repeat (first | exact trivial | exact fun _ _ h => h | (refine ⟨by first | exact ⟨rfl, rfl, rfl⟩ | rfl | exact ⟨rfl, rfl⟩ | exact ⟨rfl, fun _ _ => rfl⟩ | exact fun _ _ h => h | (intro _ _ h; cases h; done) | exact hat.symm, ?_⟩; conv => whnf))
              · have hm : ¬ 2 * (haveN n i j : Int) > n.size := of_decide_eq_false hm
                rw [if_neg hm] at hat
                have hw2 : IntKind.i64.wrap (i - 1) = i - 1 := wrapi ⟨by omega, by omega⟩
                refine ⟨i - 1, rfl, ⟨⟨by omega, hat.symm⟩, by show (i - 1 - n.commit).toNat < (i - n.commit).toNat; omega⟩, ?_⟩
                conv => whnf
                repeat (first | exact trivial | (refine ⟨by first | exact ⟨rfl, rfl, rfl⟩ | rfl | exact ⟨rfl, rfl⟩ | exact ⟨rfl, fun _ _ => rfl⟩ | exact fun _ _ h => h | (intro _ _ h; cases h; done) | exact hw2, ?_⟩; conv => whnf))
      · have hge : ¬ i > n.commit := of_decide_eq_false hge
        have hz : (i - n.commit).toNat = 0 := by omega
        rw [hz] at hgo
        refine ⟨_, rfl, ?_⟩
        conv => whnf
        repeat (first | exact trivial | exact fun _ _ h => h | (refine ⟨by first | exact ⟨rfl, rfl, rfl⟩ | rfl | exact ⟨rfl, rfl⟩ | exact ⟨rfl, fun _ _ => rfl⟩ | exact fun _ _ h => h | (intro _ _ h; cases h; done) | exact hgo, ?_⟩; conv => whnf))
/-! ### the document's, from below -/
def okAt (n : Node) (i : Int) : Bool := if ((termAtN n.log i).1 == n.log.term) = true then decide (2 * (haveN n i n.size.toNat : Int) > n.size) else false
def commitUp (n : Node) : Nat → Int
  | 0 => n.commit
  | k + 1 => if okAt n (n.commit + 1 + (k : Int)) = true then n.commit + 1 + (k : Int) else commitUp n k
theorem up_eq {n : Node} (hm : Mono n) : ∀ k, k ≤ ((lastN n.log).1 - n.commit).toNat → commitUp n k = commitGo n k
  | 0, _ => rfl
  | k + 1, hk => by
    have hi : n.commit + 1 + (k : Int) = n.commit + ((k + 1 : Nat) : Int) := by omega
    have ih := up_eq hm k (by omega)
    simp only [commitUp, commitGo, hi]
    by_cases h : (termAtN n.log (n.commit + ((k + 1 : Nat) : Int))).1 = n.log.term
    · have hok : okAt n (n.commit + ((k + 1 : Nat) : Int)) = decide (2 * (haveN n (n.commit + ((k + 1 : Nat) : Int)) n.size.toNat : Int) > n.size) := by
        unfold okAt
        rw [if_pos (by rw [h]; simp)]
      rw [hok, if_neg (c := ¬ (termAtN n.log (n.commit + ((k + 1 : Nat) : Int))).1 = n.log.term) (fun e => e h)]
      by_cases h2 : 2 * (haveN n (n.commit + ((k + 1 : Nat) : Int)) n.size.toNat : Int) > n.size
      · rw [if_pos (by simpa using h2), if_pos h2]
      · rw [if_neg (by simpa using h2), if_neg h2, ih]
    · rw [if_pos h]
      have none : ∀ j, j ≤ k + 1 → commitUp n j = n.commit := by
        intro j hj
        induction j with
        | zero => rfl
        | succ j ihj =>
          simp only [commitUp]
          have : okAt n (n.commit + 1 + (j : Int)) = false := by
            unfold okAt
            rw [if_neg]
            intro e
            refine h (hm (n.commit + 1 + (j : Int)) _ (by omega) (by omega) (by omega) (by simpa using e))
          rw [this, if_neg (by decide)]
          exact ihj (by omega)
      have := none (k + 1) (Nat.le_refl _)
      simp only [commitUp, hi] at this
      exact this
set_option maxRecDepth 100000 in
set_option maxHeartbeats 1600000 in
theorem refCommit_ok : SpecOk Try.prog 76 (commitSpec 85) := by
  refine spec_of_exec (fn := Try.f76) (c := Try.f76.body.getD .skip) (d := 2) (lv := ([0, 2, 4, 5, 6, 8, 9, 32, 51, 62, 82])) (DP := DPx T1 (CPs S3) ([0, 2, 4, 5, 6, 8, 9, 32, 51, 62, 82])) T1_ok S3_ok (fun B => DPx_ok T1_ok ord S3_ok B) (commitSpec 85) (by rfl) (by rfl) (by rfl) (fun _ => Nat.le_of_ble_eq_true (by kernel_rfl)) ?_
  rintro ⟨n, M, os, m⟩ ⟨hf, hmono, hM⟩
  obtain ⟨hs1, hs2, hm1, hm2, hb1, hb2, hl, hc1, hc2⟩ := hf
  have hlast := last_fit ⟨hs1, hs2, hm1, hm2, hb1, hb2, hl, hc1, hc2⟩
  cases M with
  | own =>
    conv => whnf
    intro A' cap m' hS
    refine ⟨⟨n.log, A', cap, m'⟩, ⟨.of_sealed hS, by show n.log.items.length < 2 ^ 62; omega⟩, ?_⟩
    conv => whnf
    repeat (first | exact trivial | (refine ⟨by first | exact ⟨rfl, rfl, rfl⟩ | rfl | exact ⟨rfl, rfl⟩ | exact ⟨rfl, fun _ _ => rfl⟩ | exact fun _ _ h => h | (intro _ _ h; cases h; done), ?_⟩; conv => whnf))
    intro _ _
    refine ⟨Nat, fun k => k ≤ ((lastN n.log).1 - n.commit).toNat, fun k => ⟨89, [⟨0, [], .p 0 0⟩, ⟨2, [], .i .i64 (lastN n.log).1⟩, ⟨4, [], .i .i64 (commitUp n k)⟩, ⟨5, [], .i .i64 (n.commit + 1 + k)⟩], [], turnH 85 1 2 n .own os, 3⟩, fun _ => m, fun k => ((lastN n.log).1 - n.commit).toNat - k, ⟨0, rfl, Nat.zero_le _, ?_⟩, ?_⟩
    conv => whnf
    · conv => whnf
      repeat (first | exact trivial | (refine ⟨by first | exact ⟨rfl, rfl, rfl⟩ | rfl | exact ⟨rfl, rfl⟩ | exact ⟨rfl, fun _ _ => rfl⟩ | exact fun _ _ h => h | (intro _ _ h; cases h; done) | (show IntKind.i64.wrap (n.commit + 1) = n.commit + 1 + 0; rw [wrapi ⟨by omega, by omega⟩]; omega), ?_⟩; conv => whnf))
    · intro k hk
      refine ⟨fun hlt => ?_, fun hge => ?_⟩
      conv => whnf
      · have hlt : n.commit + 1 + (k : Int) ≤ (lastN n.log).1 := of_decide_eq_true hlt
        obtain ⟨i, hi⟩ : ∃ i, i = n.commit + 1 + (k : Int) := ⟨_, rfl⟩
        have hup : commitUp n (k + 1) = if okAt n i = true then i else commitUp n k := by rw [hi]; rfl
        have hnext : IntKind.i64.wrap (i + 1) = n.commit + 1 + ((k + 1 : Nat) : Int) := by rw [wrapi ⟨by omega, by omega⟩]; omega
        rw [← hi] at hlt
        rw [← hi]
        conv => whnf
        intro A2 cap2 m2 hS2
        refine ⟨⟨n.log, A2, cap2, i, m2⟩, ⟨.of_sealed hS2, by show n.log.items.length < 2 ^ 62; omega, ⟨by omega, by omega⟩, ⟨by omega, by omega⟩⟩, ?_⟩
        conv => whnf
        repeat (first | exact trivial | (refine ⟨by first | exact ⟨rfl, rfl, rfl⟩ | rfl | exact ⟨rfl, rfl⟩ | exact ⟨rfl, fun _ _ => rfl⟩ | exact fun _ _ h => h | (intro _ _ h; cases h; done), ?_⟩; conv => whnf))
        intro _ _
        conv => whnf
        refine ⟨Nat, fun j => (j : Int) ≤ n.size, fun j => ⟨89, [⟨0, [], .p 0 0⟩, ⟨2, [], .i .i64 (lastN n.log).1⟩, ⟨4, [], .i .i64 (commitUp n k)⟩, ⟨5, [], .i .i64 i⟩, ⟨6, [], .i .i64 (termAtN n.log i).1⟩, ⟨8, [], .i .i64 (haveN n i j)⟩, ⟨9, [], .i .i64 j⟩], [], turnH 85 1 2 n .own os, 3⟩, fun _ => m, fun j => n.size.toNat - j, ⟨0, rfl, by show (0 : Int) ≤ _; omega, ?_⟩, ?_⟩
        conv => whnf
        · conv => whnf
          repeat (first | exact trivial | (refine ⟨by first | exact ⟨rfl, rfl, rfl⟩ | rfl | exact ⟨rfl, rfl⟩ | exact ⟨rfl, fun _ _ => rfl⟩ | exact fun _ _ h => h | (intro _ _ h; cases h; done), ?_⟩; conv => whnf))
        · intro j hj
          refine ⟨fun hlt2 => ?_, fun hge2 => ?_⟩
          conv => whnf
          · have hlt2 : (j : Int) < n.size := of_decide_eq_true hlt2
            have hle := have_le n i j
            have hsn := have_snoc n i j
            repeat (first | exact trivial | (refine ⟨by first | exact ⟨rfl, rfl, rfl⟩ | rfl | exact ⟨rfl, rfl⟩ | exact ⟨rfl, fun _ _ => rfl⟩ | exact fun _ _ h => h | (intro _ _ h; cases h; done) | exact ⟨Int.natCast_nonneg _, by show (j : Int) < 7; omega⟩ | (show (j : Int).toNat < 7; omega), ?_⟩; conv => whnf))
            refine ⟨fun hb => ?_, fun hb => ?_⟩
            · have hb : decide (n.mat j ≥ i) = true := hb
              rw [if_pos hb] at hsn
              refine ⟨j + 1, rfl, ⟨by show ((j + 1 : Nat) : Int) ≤ _; omega, by show n.size.toNat - (j + 1) < n.size.toNat - j; omega⟩, ?_⟩
              conv => whnf
              repeat (first | exact trivial | (refine ⟨by first | exact ⟨rfl, rfl, rfl⟩ | rfl | exact ⟨rfl, rfl⟩ | exact ⟨rfl, fun _ _ => rfl⟩ | exact fun _ _ h => h | (intro _ _ h; cases h; done) | exact wrapi_succ (by omega) | (rw [hsn]; exact wrapi_succ (by omega)), ?_⟩; conv => whnf))
            · have hb : decide (n.mat j ≥ i) = false := hb
              rw [if_neg (by intro e; rw [e] at hb; cases hb)] at hsn
              refine ⟨j + 1, rfl, ⟨by show ((j + 1 : Nat) : Int) ≤ _; omega, by show n.size.toNat - (j + 1) < n.size.toNat - j; omega⟩, ?_⟩
              conv => whnf
              repeat (first | exact trivial | (refine ⟨by first | exact ⟨rfl, rfl, rfl⟩ | rfl | exact ⟨rfl, rfl⟩ | exact ⟨rfl, fun _ _ => rfl⟩ | exact fun _ _ h => h | (intro _ _ h; cases h; done) | exact wrapi_succ (by omega) | (rw [hsn]; rfl), ?_⟩; conv => whnf))
          · have hge2 : ¬ (j : Int) < n.size := of_decide_eq_false hge2
            have hjs : n.size.toNat = j := by omega
            have hle := have_le n i j
            have hw : IntKind.i64.wrap (2 * (haveN n i j : Int)) = 2 * (haveN n i j : Int) := wrapi ⟨by omega, by omega⟩
            unfold okAt at hup
            rw [hjs] at hup
            conv => whnf
            rw [hw]
            refine ⟨fun hok => ?_, fun hok => ?_⟩
            · rw [if_pos hok] at hup
              refine ⟨k + 1, rfl, ⟨by show k + 1 ≤ _; omega, by show ((lastN n.log).1 - n.commit).toNat - (k + 1) < ((lastN n.log).1 - n.commit).toNat - k; omega⟩, ?_⟩
              conv => whnf
              repeat (first | exact trivial | (refine ⟨by first | exact ⟨rfl, rfl, rfl⟩ | rfl | exact ⟨rfl, rfl⟩ | exact ⟨rfl, fun _ _ => rfl⟩ | exact fun _ _ h => h | (intro _ _ h; cases h; done) | exact hup.symm | exact hnext, ?_⟩; conv => whnf))
            · rw [if_neg (by rw [hok]; decide)] at hup
              refine ⟨k + 1, rfl, ⟨by show k + 1 ≤ _; omega, by show ((lastN n.log).1 - n.commit).toNat - (k + 1) < ((lastN n.log).1 - n.commit).toNat - k; omega⟩, ?_⟩
              conv => whnf
              repeat (first | exact trivial | (refine ⟨by first | exact ⟨rfl, rfl, rfl⟩ | rfl | exact ⟨rfl, rfl⟩ | exact ⟨rfl, fun _ _ => rfl⟩ | exact fun _ _ h => h | (intro _ _ h; cases h; done) | exact hup.symm | exact hnext, ?_⟩; conv => whnf))
      · have hge : ¬ n.commit + 1 + (k : Int) ≤ (lastN n.log).1 := of_decide_eq_false hge
        have hkk : k = ((lastN n.log).1 - n.commit).toNat := by omega
        have hfin : commitUp n k = commitN n := by rw [up_eq hmono k hk, hkk]; rfl
        refine ⟨_, rfl, ?_⟩
        conv => whnf
        repeat (first | exact trivial | exact fun _ _ h => h | (refine ⟨by first | exact ⟨rfl, rfl, rfl⟩ | rfl | exact ⟨rfl, rfl⟩ | exact ⟨rfl, fun _ _ => rfl⟩ | exact fun _ _ h => h | (intro _ _ h; cases h; done) | exact hfin, ?_⟩; conv => whnf))
  | st A c =>
    conv => whnf
    refine ⟨⟨n.log, A, c, m⟩, ⟨hM, by show n.log.items.length < 2 ^ 62; omega⟩, ?_⟩
    conv => whnf
    repeat (first | exact trivial | (refine ⟨by first | exact ⟨rfl, rfl, rfl⟩ | rfl | exact ⟨rfl, rfl⟩ | exact ⟨rfl, fun _ _ => rfl⟩ | exact fun _ _ h => h | (intro _ _ h; cases h; done), ?_⟩; conv => whnf))
    intro _ _
    refine ⟨Nat, fun k => k ≤ ((lastN n.log).1 - n.commit).toNat, fun k => ⟨89, [⟨0, [], .p 0 0⟩, ⟨2, [], .i .i64 (lastN n.log).1⟩, ⟨4, [], .i .i64 (commitUp n k)⟩, ⟨5, [], .i .i64 (n.commit + 1 + k)⟩], [], turnH 85 1 2 n (.st A c) os, 3⟩, fun _ => m, fun k => ((lastN n.log).1 - n.commit).toNat - k, ⟨0, rfl, Nat.zero_le _, ?_⟩, ?_⟩
    conv => whnf
    · conv => whnf
      repeat (first | exact trivial | (refine ⟨by first | exact ⟨rfl, rfl, rfl⟩ | rfl | exact ⟨rfl, rfl⟩ | exact ⟨rfl, fun _ _ => rfl⟩ | exact fun _ _ h => h | (intro _ _ h; cases h; done) | (show IntKind.i64.wrap (n.commit + 1) = n.commit + 1 + 0; rw [wrapi ⟨by omega, by omega⟩]; omega), ?_⟩; conv => whnf))
    · intro k hk
      refine ⟨fun hlt => ?_, fun hge => ?_⟩
      conv => whnf
      · have hlt : n.commit + 1 + (k : Int) ≤ (lastN n.log).1 := of_decide_eq_true hlt
        obtain ⟨i, hi⟩ : ∃ i, i = n.commit + 1 + (k : Int) := ⟨_, rfl⟩
        have hup : commitUp n (k + 1) = if okAt n i = true then i else commitUp n k := by rw [hi]; rfl
        have hnext : IntKind.i64.wrap (i + 1) = n.commit + 1 + ((k + 1 : Nat) : Int) := by rw [wrapi ⟨by omega, by omega⟩]; omega
        rw [← hi] at hlt
        rw [← hi]
        conv => whnf
        skip
        refine ⟨⟨n.log, A, c, i, m⟩, ⟨hM, by show n.log.items.length < 2 ^ 62; omega, ⟨by omega, by omega⟩, ⟨by omega, by omega⟩⟩, ?_⟩
        conv => whnf
        repeat (first | exact trivial | (refine ⟨by first | exact ⟨rfl, rfl, rfl⟩ | rfl | exact ⟨rfl, rfl⟩ | exact ⟨rfl, fun _ _ => rfl⟩ | exact fun _ _ h => h | (intro _ _ h; cases h; done), ?_⟩; conv => whnf))
        intro _ _
        conv => whnf
        refine ⟨Nat, fun j => (j : Int) ≤ n.size, fun j => ⟨89, [⟨0, [], .p 0 0⟩, ⟨2, [], .i .i64 (lastN n.log).1⟩, ⟨4, [], .i .i64 (commitUp n k)⟩, ⟨5, [], .i .i64 i⟩, ⟨6, [], .i .i64 (termAtN n.log i).1⟩, ⟨8, [], .i .i64 (haveN n i j)⟩, ⟨9, [], .i .i64 j⟩], [], turnH 85 1 2 n (.st A c) os, 3⟩, fun _ => m, fun j => n.size.toNat - j, ⟨0, rfl, by show (0 : Int) ≤ _; omega, ?_⟩, ?_⟩
        conv => whnf
        · conv => whnf
          repeat (first | exact trivial | (refine ⟨by first | exact ⟨rfl, rfl, rfl⟩ | rfl | exact ⟨rfl, rfl⟩ | exact ⟨rfl, fun _ _ => rfl⟩ | exact fun _ _ h => h | (intro _ _ h; cases h; done), ?_⟩; conv => whnf))
        · intro j hj
          refine ⟨fun hlt2 => ?_, fun hge2 => ?_⟩
          conv => whnf
          · have hlt2 : (j : Int) < n.size := of_decide_eq_true hlt2
            have hle := have_le n i j
            have hsn := have_snoc n i j
            repeat (first | exact trivial | (refine ⟨by first | exact ⟨rfl, rfl, rfl⟩ | rfl | exact ⟨rfl, rfl⟩ | exact ⟨rfl, fun _ _ => rfl⟩ | exact fun _ _ h => h | (intro _ _ h; cases h; done) | exact ⟨Int.natCast_nonneg _, by show (j : Int) < 7; omega⟩ | (show (j : Int).toNat < 7; omega), ?_⟩; conv => whnf))
            refine ⟨fun hb => ?_, fun hb => ?_⟩
            · have hb : decide (n.mat j ≥ i) = true := hb
              rw [if_pos hb] at hsn
              refine ⟨j + 1, rfl, ⟨by show ((j + 1 : Nat) : Int) ≤ _; omega, by show n.size.toNat - (j + 1) < n.size.toNat - j; omega⟩, ?_⟩
              conv => whnf
              repeat (first | exact trivial | (refine ⟨by first | exact ⟨rfl, rfl, rfl⟩ | rfl | exact ⟨rfl, rfl⟩ | exact ⟨rfl, fun _ _ => rfl⟩ | exact fun _ _ h => h | (intro _ _ h; cases h; done) | exact wrapi_succ (by omega) | (rw [hsn]; exact wrapi_succ (by omega)), ?_⟩; conv => whnf))
            · have hb : decide (n.mat j ≥ i) = false := hb
              rw [if_neg (by intro e; rw [e] at hb; cases hb)] at hsn
              refine ⟨j + 1, rfl, ⟨by show ((j + 1 : Nat) : Int) ≤ _; omega, by show n.size.toNat - (j + 1) < n.size.toNat - j; omega⟩, ?_⟩
              conv => whnf
              repeat (first | exact trivial | (refine ⟨by first | exact ⟨rfl, rfl, rfl⟩ | rfl | exact ⟨rfl, rfl⟩ | exact ⟨rfl, fun _ _ => rfl⟩ | exact fun _ _ h => h | (intro _ _ h; cases h; done) | exact wrapi_succ (by omega) | (rw [hsn]; rfl), ?_⟩; conv => whnf))
          · have hge2 : ¬ (j : Int) < n.size := of_decide_eq_false hge2
            have hjs : n.size.toNat = j := by omega
            have hle := have_le n i j
            have hw : IntKind.i64.wrap (2 * (haveN n i j : Int)) = 2 * (haveN n i j : Int) := wrapi ⟨by omega, by omega⟩
            unfold okAt at hup
            rw [hjs] at hup
            conv => whnf
            rw [hw]
            refine ⟨fun hok => ?_, fun hok => ?_⟩
            · rw [if_pos hok] at hup
              refine ⟨k + 1, rfl, ⟨by show k + 1 ≤ _; omega, by show ((lastN n.log).1 - n.commit).toNat - (k + 1) < ((lastN n.log).1 - n.commit).toNat - k; omega⟩, ?_⟩
              conv => whnf
              repeat (first | exact trivial | (refine ⟨by first | exact ⟨rfl, rfl, rfl⟩ | rfl | exact ⟨rfl, rfl⟩ | exact ⟨rfl, fun _ _ => rfl⟩ | exact fun _ _ h => h | (intro _ _ h; cases h; done) | exact hup.symm | exact hnext, ?_⟩; conv => whnf))
            · rw [if_neg (by rw [hok]; decide)] at hup
              refine ⟨k + 1, rfl, ⟨by show k + 1 ≤ _; omega, by show ((lastN n.log).1 - n.commit).toNat - (k + 1) < ((lastN n.log).1 - n.commit).toNat - k; omega⟩, ?_⟩
              conv => whnf
              repeat (first | exact trivial | (refine ⟨by first | exact ⟨rfl, rfl, rfl⟩ | rfl | exact ⟨rfl, rfl⟩ | exact ⟨rfl, fun _ _ => rfl⟩ | exact fun _ _ h => h | (intro _ _ h; cases h; done) | exact hup.symm | exact hnext, ?_⟩; conv => whnf))
      · have hge : ¬ n.commit + 1 + (k : Int) ≤ (lastN n.log).1 := of_decide_eq_false hge
        have hkk : k = ((lastN n.log).1 - n.commit).toNat := by omega
        have hfin : commitUp n k = commitN n := by rw [up_eq hmono k hk, hkk]; rfl
        refine ⟨_, rfl, ?_⟩
        conv => whnf
        repeat (first | exact trivial | exact fun _ _ h => h | (refine ⟨by first | exact ⟨rfl, rfl, rfl⟩ | rfl | exact ⟨rfl, rfl⟩ | exact ⟨rfl, fun _ _ => rfl⟩ | exact fun _ _ h => h | (intro _ _ h; cases h; done) | exact hfin, ?_⟩; conv => whnf))
  | wide ys =>
    conv => whnf
    intro A' cap m' hS
    refine ⟨⟨n.log, A', cap, m'⟩, ⟨wide_cells hM hS, by show n.log.items.length < 2 ^ 62; omega⟩, ?_⟩
    conv => whnf
    repeat (first | exact trivial | (refine ⟨by first | exact ⟨rfl, rfl, rfl⟩ | rfl | exact ⟨rfl, rfl⟩ | exact ⟨rfl, fun _ _ => rfl⟩ | exact fun _ _ h => h | (intro _ _ h; cases h; done), ?_⟩; conv => whnf))
    intro _ _
    refine ⟨Nat, fun k => k ≤ ((lastN n.log).1 - n.commit).toNat, fun k => ⟨89, [⟨0, [], .p 0 0⟩, ⟨2, [], .i .i64 (lastN n.log).1⟩, ⟨4, [], .i .i64 (commitUp n k)⟩, ⟨5, [], .i .i64 (n.commit + 1 + k)⟩], [], turnH 85 1 2 n (.wide ys) os, 3⟩, fun _ => m, fun k => ((lastN n.log).1 - n.commit).toNat - k, ⟨0, rfl, Nat.zero_le _, ?_⟩, ?_⟩
    conv => whnf
    · conv => whnf
      repeat (first | exact trivial | (refine ⟨by first | exact ⟨rfl, rfl, rfl⟩ | rfl | exact ⟨rfl, rfl⟩ | exact ⟨rfl, fun _ _ => rfl⟩ | exact fun _ _ h => h | (intro _ _ h; cases h; done) | (show IntKind.i64.wrap (n.commit + 1) = n.commit + 1 + 0; rw [wrapi ⟨by omega, by omega⟩]; omega), ?_⟩; conv => whnf))
    · intro k hk
      refine ⟨fun hlt => ?_, fun hge => ?_⟩
      conv => whnf
      · have hlt : n.commit + 1 + (k : Int) ≤ (lastN n.log).1 := of_decide_eq_true hlt
        obtain ⟨i, hi⟩ : ∃ i, i = n.commit + 1 + (k : Int) := ⟨_, rfl⟩
        have hup : commitUp n (k + 1) = if okAt n i = true then i else commitUp n k := by rw [hi]; rfl
        have hnext : IntKind.i64.wrap (i + 1) = n.commit + 1 + ((k + 1 : Nat) : Int) := by rw [wrapi ⟨by omega, by omega⟩]; omega
        rw [← hi] at hlt
        rw [← hi]
        conv => whnf
        intro A2 cap2 m2 hS2
        refine ⟨⟨n.log, A2, cap2, i, m2⟩, ⟨wide_cells hM hS2, by show n.log.items.length < 2 ^ 62; omega, ⟨by omega, by omega⟩, ⟨by omega, by omega⟩⟩, ?_⟩
        conv => whnf
        repeat (first | exact trivial | (refine ⟨by first | exact ⟨rfl, rfl, rfl⟩ | rfl | exact ⟨rfl, rfl⟩ | exact ⟨rfl, fun _ _ => rfl⟩ | exact fun _ _ h => h | (intro _ _ h; cases h; done), ?_⟩; conv => whnf))
        intro _ _
        conv => whnf
        refine ⟨Nat, fun j => (j : Int) ≤ n.size, fun j => ⟨89, [⟨0, [], .p 0 0⟩, ⟨2, [], .i .i64 (lastN n.log).1⟩, ⟨4, [], .i .i64 (commitUp n k)⟩, ⟨5, [], .i .i64 i⟩, ⟨6, [], .i .i64 (termAtN n.log i).1⟩, ⟨8, [], .i .i64 (haveN n i j)⟩, ⟨9, [], .i .i64 j⟩], [], turnH 85 1 2 n (.wide ys) os, 3⟩, fun _ => m, fun j => n.size.toNat - j, ⟨0, rfl, by show (0 : Int) ≤ _; omega, ?_⟩, ?_⟩
        conv => whnf
        · conv => whnf
          repeat (first | exact trivial | (refine ⟨by first | exact ⟨rfl, rfl, rfl⟩ | rfl | exact ⟨rfl, rfl⟩ | exact ⟨rfl, fun _ _ => rfl⟩ | exact fun _ _ h => h | (intro _ _ h; cases h; done), ?_⟩; conv => whnf))
        · intro j hj
          refine ⟨fun hlt2 => ?_, fun hge2 => ?_⟩
          conv => whnf
          · have hlt2 : (j : Int) < n.size := of_decide_eq_true hlt2
            have hle := have_le n i j
            have hsn := have_snoc n i j
            repeat (first | exact trivial | (refine ⟨by first | exact ⟨rfl, rfl, rfl⟩ | rfl | exact ⟨rfl, rfl⟩ | exact ⟨rfl, fun _ _ => rfl⟩ | exact fun _ _ h => h | (intro _ _ h; cases h; done) | exact ⟨Int.natCast_nonneg _, by show (j : Int) < 7; omega⟩ | (show (j : Int).toNat < 7; omega), ?_⟩; conv => whnf))
            refine ⟨fun hb => ?_, fun hb => ?_⟩
            · have hb : decide (n.mat j ≥ i) = true := hb
              rw [if_pos hb] at hsn
              refine ⟨j + 1, rfl, ⟨by show ((j + 1 : Nat) : Int) ≤ _; omega, by show n.size.toNat - (j + 1) < n.size.toNat - j; omega⟩, ?_⟩
              conv => whnf
              repeat (first | exact trivial | (refine ⟨by first | exact ⟨rfl, rfl, rfl⟩ | rfl | exact ⟨rfl, rfl⟩ | exact ⟨rfl, fun _ _ => rfl⟩ | exact fun _ _ h => h | (intro _ _ h; cases h; done) | exact wrapi_succ (by omega) | (rw [hsn]; exact wrapi_succ (by omega)), ?_⟩; conv => whnf))
            · have hb : decide (n.mat j ≥ i) = false := hb
              rw [if_neg (by intro e; rw [e] at hb; cases hb)] at hsn
              refine ⟨j + 1, rfl, ⟨by show ((j + 1 : Nat) : Int) ≤ _; omega, by show n.size.toNat - (j + 1) < n.size.toNat - j; omega⟩, ?_⟩
              conv => whnf
              repeat (first | exact trivial | (refine ⟨by first | exact ⟨rfl, rfl, rfl⟩ | rfl | exact ⟨rfl, rfl⟩ | exact ⟨rfl, fun _ _ => rfl⟩ | exact fun _ _ h => h | (intro _ _ h; cases h; done) | exact wrapi_succ (by omega) | (rw [hsn]; rfl), ?_⟩; conv => whnf))
          · have hge2 : ¬ (j : Int) < n.size := of_decide_eq_false hge2
            have hjs : n.size.toNat = j := by omega
            have hle := have_le n i j
            have hw : IntKind.i64.wrap (2 * (haveN n i j : Int)) = 2 * (haveN n i j : Int) := wrapi ⟨by omega, by omega⟩
            unfold okAt at hup
            rw [hjs] at hup
            conv => whnf
            rw [hw]
            refine ⟨fun hok => ?_, fun hok => ?_⟩
            · rw [if_pos hok] at hup
              refine ⟨k + 1, rfl, ⟨by show k + 1 ≤ _; omega, by show ((lastN n.log).1 - n.commit).toNat - (k + 1) < ((lastN n.log).1 - n.commit).toNat - k; omega⟩, ?_⟩
              conv => whnf
              repeat (first | exact trivial | (refine ⟨by first | exact ⟨rfl, rfl, rfl⟩ | rfl | exact ⟨rfl, rfl⟩ | exact ⟨rfl, fun _ _ => rfl⟩ | exact fun _ _ h => h | (intro _ _ h; cases h; done) | exact hup.symm | exact hnext, ?_⟩; conv => whnf))
            · rw [if_neg (by rw [hok]; decide)] at hup
              refine ⟨k + 1, rfl, ⟨by show k + 1 ≤ _; omega, by show ((lastN n.log).1 - n.commit).toNat - (k + 1) < ((lastN n.log).1 - n.commit).toNat - k; omega⟩, ?_⟩
              conv => whnf
              repeat (first | exact trivial | (refine ⟨by first | exact ⟨rfl, rfl, rfl⟩ | rfl | exact ⟨rfl, rfl⟩ | exact ⟨rfl, fun _ _ => rfl⟩ | exact fun _ _ h => h | (intro _ _ h; cases h; done) | exact hup.symm | exact hnext, ?_⟩; conv => whnf))
      · have hge : ¬ n.commit + 1 + (k : Int) ≤ (lastN n.log).1 := of_decide_eq_false hge
        have hkk : k = ((lastN n.log).1 - n.commit).toNat := by omega
        have hfin : commitUp n k = commitN n := by rw [up_eq hmono k hk, hkk]; rfl
        refine ⟨_, rfl, ?_⟩
        conv => whnf
        repeat (first | exact trivial | exact fun _ _ h => h | (refine ⟨by first | exact ⟨rfl, rfl, rfl⟩ | rfl | exact ⟨rfl, rfl⟩ | exact ⟨rfl, fun _ _ => rfl⟩ | exact fun _ _ h => h | (intro _ _ h; cases h; done) | exact hfin, ?_⟩; conv => whnf))
end Go.Proofs.Ytjpjiniclibgkaa.Sx

namespace Go.Proofs.Ytjpjiniclibgkaa.Sx
open Go

theorem Cells.drop {m : Mem} {A : Option Addr} {vs : List Value} (h : Cells m A vs) (o : Nat) : Cells m (A.map (·.add o)) (vs.drop o) := by
  intro j v hj
  rw [List.getElem?_drop] at hj
  obtain ⟨a, ha, hm⟩ := h _ _ hj
  subst ha
  exact ⟨a.add o, rfl, by rw [add_add]; exact hm⟩
theorem Cells.take {m : Mem} {A : Option Addr} {vs : List Value} (h : Cells m A vs) (k : Nat) : Cells m A (vs.take k) := by
  intro j v hj
  rw [List.getElem?_take] at hj
  split at hj
  · exact h j v hj
  · cases hj
theorem Cells.nil (m : Mem) (A : Option Addr) : Cells m A (itemsV []) := fun j v h => by cases h
/-- A slice's part that begins further on. -/
theorem Cells.slice {m : Mem} {A : Option Addr} {xs : List Item} (h : Cells m A (itemsV xs)) {c l : Nat} (hc : xs.length ≤ c) : Cells m (if c = l then A else A.map (·.add (l * 6))) (itemsV (xs.drop l)) := by
  by_cases hl : c = l
  · rw [if_pos hl, List.drop_eq_nil_of_le (by omega)]
    exact Cells.nil _ _
  · rw [if_neg hl, ← itemsV_drop]
    exact h.drop _
theorem Cells.takeI {m : Mem} {A : Option Addr} {xs : List Item} (h : Cells m A (itemsV xs)) (k : Nat) : Cells m A (itemsV (xs.take k)) := by
  rw [← itemsV_take]; exact h.take _
def mkM (kind last lastTerm commit : Int) (yes : Bool) (items : List Item) (book : ByteArray) : Msg := ⟨0, 0, kind, 0, last, lastTerm, commit, yes, items, book⟩
def feedK (n : Node) (to : Int) : Msg :=
  if n.next to.toNat - 1 < n.log.base then (mkM 5 n.log.base n.log.baseTerm 0 false [] n.log.book)
  else mkM 3 (n.next to.toNat - 1) (termAtN n.log (n.next to.toNat - 1)).1 n.commit false ((n.log.items.drop (n.next to.toNat - 1 - n.log.base).toNat).take 16) ByteArray.empty
def feedN (n : Node) (to : Int) : Msg := sayN n to (feedK n to)
structure SaidB where
  os : List OMsg
  m : Mem
structure FeedG where
  n : Node
  A : Option Addr
  c : Nat
  os : List OMsg
  m : Mem
  to : Int
/-- What a node is told lies in its log, or next to it. -/
def Near (n : Node) (to : Int) : Prop := 0 ≤ to ∧ to < 7 ∧ 0 ≤ n.next to.toNat ∧ n.next to.toNat ≤ n.log.base + n.log.items.length + 1
def feedSpec (t : TypeId) : Spec where
  A := FeedG
  R := fun ⟨n, A, c, os, m, to⟩ => Fit n ∧ Near n to ∧ (Cells m A (itemsV n.log.items) ∧ n.log.items.length ≤ c) ∧ Said m os ∧ os.length < 900
  J := fun ⟨_, _, _, _, m, _⟩ => m
  args := fun ⟨_, _, _, _, _, to⟩ => [.p 0 0, .i .i64 to]
  h := fun ⟨n, A, c, os, _, _⟩ => turnH t 1 2 n (.st A c) os
  nx := 2
  Bb := SaidB
  C := fun ⟨n, _, _, os, m, to⟩ ⟨os', m'⟩ => (∃ o, os' = os ++ [o] ∧ o.k = feedN n to) ∧ Said m' os' ∧ ∀ b x, m b = some x → m' b = some x
  out := fun _ _ => .ret (.t [])
  h2 := fun ⟨n, A, c, _, _, _⟩ ⟨os', _⟩ => turnH t 3 4 n (.st A c) os'
  nx2 := 5
  J2 := fun _ ⟨_, m'⟩ => m'
  ext := true
  sd := [(0, 7)]
def S4 : List (Nat × Spec) := (50, saySpec 78) :: (55, saySpec 85) :: (46, followSpec 78) :: (54, followSpec 85) :: (72, commitSpec 78) :: (76, commitSpec 85) :: (45, beginSpec 78) :: (53, beginSpec 85) :: (16, goodSpec) :: (17, goodSpec) :: (18, soundSpec) :: (19, soundSpec) :: S3
theorem CP_cons {P : Program} {S : List (Nat × Spec)} (h : ∀ f s, findS S f = some s → SpecOk P f s) {k : Nat} {t : Spec} (hk : SpecOk P k t) : ∀ f s, findS ((k, t) :: S) f = some s → SpecOk P f s := by
  intro f s hf
  simp only [findS] at hf
  split at hf
  · rename_i hb; obtain rfl := beq_eq hb; cases hf; exact hk
  · exact h f s hf
theorem S3_all : ∀ f s, findS S3 f = some s → SpecOk Try.prog f s := fun f s h => by
  simp only [S3, S2, S1, findS] at h
  repeat' split at h
  all_goals first | (rename_i hb; obtain rfl := beq_eq hb; cases h; first | exact goodLog_ok | exact refGoodLog_ok | exact copied_ok | exact refCopy_ok | exact clone_ok | exact last_ok | exact refLast_ok | exact term_ok | exact refTerm_ok | exact valid_ok | exact refValid_ok) | cases h
theorem S4_all : ∀ f s, findS S4 f = some s → SpecOk Try.prog f s :=
  CP_cons (CP_cons (CP_cons (CP_cons (CP_cons (CP_cons (CP_cons (CP_cons (CP_cons (CP_cons (CP_cons (CP_cons S3_all refSound_ok) sound_ok) refGood_ok) good_ok) refBegin_ok) begin_ok) refCommit_ok) commit_ok) refFollow_ok) follow_ok) refSay_ok) say_ok
theorem S4_ok : CPOk Try.prog (CPs S4) := CPs_ok S4_all
set_option maxRecDepth 100000 in
theorem feed_ok : SpecOk Try.prog 64 (feedSpec 78) := by
  refine spec_of_exec (fn := Try.f64) (c := Try.f64.body.getD .skip) (d := 0) (lv := ([0, 1, 4, 5, 6, 8, 25])) (DP := DPx T1 (CPs S4) ([0, 1, 4, 5, 6, 8, 25])) T1_ok S4_ok (fun B => DPx_ok T1_ok ord S4_ok B) (feedSpec 78) (by rfl) (by rfl) (by rfl) (fun _ => Nat.le_of_ble_eq_true (by kernel_rfl)) ?_
  rintro ⟨n, A, c, os, m, to⟩ ⟨hf, ⟨ht1, ht2, hn1, hn2⟩, ⟨hM, hcap⟩, hsaid, hos⟩
  obtain ⟨hs1, hs2, hm1, hm2, hb1, hb2, hl, hc1, hc2⟩ := hf
  have hw : IntKind.i64.wrap (n.next to.toNat - 1) = n.next to.toNat - 1 := wrapi ⟨by omega, by omega⟩
  conv => whnf
  repeat (first | exact trivial | (refine ⟨by first | exact ⟨rfl, rfl, rfl⟩ | rfl | exact ⟨rfl, rfl⟩ | exact ⟨rfl, fun _ _ => rfl⟩ | exact fun _ _ h => h | (intro _ _ h; cases h; done) | exact ⟨ht1, ht2⟩ | (show to.toNat < 7; omega), ?_⟩; conv => whnf))
  rw [hw]
  refine ⟨fun hlow => ?_, fun hhigh => ?_⟩
  · have hlow : n.next to.toNat - 1 < n.log.base := of_decide_eq_true hlow
    have hk : feedK n to = (mkM 5 n.log.base n.log.baseTerm 0 false [] n.log.book) := by unfold feedK; rw [if_pos hlow]
    conv => whnf
    refine ⟨⟨n, .st A c, os, m, to, (mkM 5 n.log.base n.log.baseTerm 0 false [] n.log.book), none, 0⟩, ⟨by show os.length < 1000; omega, Cells.nil _ _⟩, ?_⟩
    conv => whnf
    repeat (first | exact trivial | (refine ⟨by first | exact ⟨rfl, rfl, rfl⟩ | rfl | exact ⟨rfl, rfl⟩ | exact ⟨rfl, fun _ _ => rfl⟩ | exact fun _ _ h => h | (intro _ _ h; cases h; done), ?_⟩; conv => whnf))
    rintro b rfl
    refine ⟨⟨os ++ [⟨sayN n to (mkM 5 n.log.base n.log.baseTerm 0 false [] n.log.book), none, 0⟩], m⟩, ⟨⟨_, rfl, by unfold feedN; rw [hk]⟩, hsaid.snoc (Cells.nil _ _), fun _ _ h => h⟩, ?_⟩
    conv => whnf
    repeat (first | exact trivial | exact fun _ _ h => h | (refine ⟨by first | exact ⟨rfl, rfl, rfl⟩ | rfl | exact ⟨rfl, rfl⟩ | exact ⟨rfl, fun _ _ => rfl⟩ | exact fun _ _ h => h | (intro _ _ h; cases h; done), ?_⟩; conv => whnf))
  · have hhigh : ¬ n.next to.toNat - 1 < n.log.base := of_decide_eq_false hhigh
    obtain ⟨a, ha⟩ : ∃ a, a = n.next to.toNat - 1 := ⟨_, rfl⟩
    rw [← ha] at hhigh
    rw [← ha]
    obtain ⟨l, hl0⟩ : ∃ l : Nat, l = (a - n.log.base).toNat := ⟨_, rfl⟩
    have hwl : IntKind.i64.wrap (a - n.log.base) = (l : Int) := by rw [wrapi ⟨by omega, by omega⟩]; omega
    have hk : feedK n to = mkM 3 a (termAtN n.log a).1 n.commit false ((n.log.items.drop l).take 16) ByteArray.empty := by unfold feedK; rw [if_neg (by omega), ← ha, ← hl0]
    refine ⟨⟨n.log, A, c, a, m⟩, ⟨hM, by show n.log.items.length < 2 ^ 62; omega, ⟨by omega, by omega⟩, ⟨by omega, by omega⟩⟩, ?_⟩
    conv => whnf
    repeat (first | exact trivial | (refine ⟨by first | exact ⟨rfl, rfl, rfl⟩ | rfl | exact ⟨rfl, rfl⟩ | exact ⟨rfl, fun _ _ => rfl⟩ | exact fun _ _ h => h | (intro _ _ h; cases h; done), ?_⟩; conv => whnf))
    intro _ _
    conv => whnf
    rw [hwl]
    have hll : l ≤ n.log.items.length := by omega
    repeat (first | exact trivial | (refine ⟨by first | exact ⟨rfl, rfl, rfl⟩ | rfl | exact ⟨rfl, rfl⟩ | exact ⟨rfl, fun _ _ => rfl⟩ | exact fun _ _ h => h | (intro _ _ h; cases h; done) | exact ⟨Int.natCast_nonneg _, by show (l : Int) ≤ (n.log.items.length : Int); omega⟩, ?_⟩; conv => whnf))
    obtain ⟨xs, hxs⟩ : ∃ xs, xs = (n.log.items.drop l).take 16 := ⟨_, rfl⟩
    have hxl : xs.length = min 16 (n.log.items.length - l) := by rw [hxs, List.length_take, List.length_drop]
    have hq : (if (16 : Int) < ((n.log.items.length - (l : Int).toNat : Nat) : Int) then (16 : Int) else ((n.log.items.length - (l : Int).toNat : Nat) : Int)) = (xs.length : Int) := by
      rw [hxl, Int.toNat_natCast]
      split <;> omega
    have hxc : Cells m (if c = (l : Int).toNat then A else A.map (·.add ((l : Int).toNat * 6))) (itemsV xs) := by
      rw [hxs, Int.toNat_natCast]
      exact (hM.slice hcap).takeI 16
    refine Or.inr ⟨[0], sc64_6, by kernel_rfl, ?_⟩
    conv => whnf
    rw [hq]
    refine ⟨⟨Int.natCast_nonneg _, by rw [hxl, Int.toNat_natCast]; omega⟩, ?_⟩
    conv => whnf
    refine ⟨⟨xs, if c = (l : Int).toNat then A else A.map (·.add ((l : Int).toNat * 6)), c - (l : Int).toNat, m⟩, ⟨hxc, by show xs.length ≤ 2 ^ 40; omega⟩, ?_⟩
    conv => whnf
    repeat (first | exact trivial | (refine ⟨by first | exact ⟨rfl, rfl, rfl⟩ | rfl | exact ⟨rfl, rfl⟩ | exact ⟨rfl, fun _ _ => rfl⟩ | exact fun _ _ h => h | (intro _ _ h; cases h; done), ?_⟩; conv => whnf))
    intro _ _
    conv => whnf
    repeat (first | exact trivial | (refine ⟨by first | exact ⟨rfl, rfl, rfl⟩ | rfl | exact ⟨rfl, rfl⟩ | exact ⟨rfl, fun _ _ => rfl⟩ | exact fun _ _ h => h | (intro _ _ h; cases h; done), ?_⟩; conv => whnf))
    intro A3 cap3 m3 hS3
    conv => whnf
    have h3 : Cells m3 A3 (itemsV xs) := .of_sealed hS3
    refine ⟨⟨n, .st A c, os, m3, to, (mkM 3 a (termAtN n.log a).1 n.commit false xs ByteArray.empty), A3, cap3⟩, ⟨by show os.length < 1000; omega, h3⟩, ?_⟩
    conv => whnf
    repeat (first | exact trivial | (refine ⟨by first | exact ⟨rfl, rfl, rfl⟩ | rfl | exact ⟨rfl, rfl⟩ | exact ⟨rfl, fun _ _ => rfl⟩ | exact fun _ _ h => h | (intro _ _ h; cases h; done), ?_⟩; conv => whnf))
    rintro b rfl
    refine ⟨⟨os ++ [⟨sayN n to (mkM 3 a (termAtN n.log a).1 n.commit false xs ByteArray.empty), A3, cap3⟩], m3⟩, ⟨⟨_, rfl, by unfold feedN; rw [hk, hxs]⟩, (hsaid.ext hS3.ext).snoc h3 hS3.le, hS3.ext⟩, ?_⟩
    conv => whnf
    repeat (first | exact trivial | exact fun _ _ h => h | (refine ⟨by first | exact ⟨rfl, rfl, rfl⟩ | rfl | exact ⟨rfl, rfl⟩ | exact ⟨rfl, fun _ _ => rfl⟩ | exact fun _ _ h => h | (intro _ _ h; cases h; done) | exact hS3.ext, ?_⟩; conv => whnf))
theorem itemsV_snoc {xs : List Item} {i : Nat} {x : Item} (h : xs[i]? = some x) : itemsV (xs.take (i + 1)) = itemsV (xs.take i) ++ itemV x := by
  rw [take_snoc h, itemsV_append]; simp [itemsV]
set_option maxRecDepth 100000 in
theorem refFeed_ok : SpecOk Try.prog 77 (feedSpec 85) := by
  refine spec_of_exec (fn := Try.f77) (c := Try.f77.body.getD .skip) (d := 1) (lv := ([0, 1, 4, 5, 6, 7, 24, 63])) (DP := DPx T1 (CPs S4) ([0, 1, 4, 5, 6, 7, 24, 63])) T1_ok S4_ok (fun B => DPx_ok T1_ok ord S4_ok B) (feedSpec 85) (by rfl) (by rfl) (by rfl) (fun _ => Nat.le_of_ble_eq_true (by kernel_rfl)) ?_
  rintro ⟨n, A, c, os, m, to⟩ ⟨hf, ⟨ht1, ht2, hn1, hn2⟩, ⟨hM, hcap⟩, hsaid, hos⟩
  obtain ⟨hs1, hs2, hm1, hm2, hb1, hb2, hl, hc1, hc2⟩ := hf
  have hw : IntKind.i64.wrap (n.next to.toNat - 1) = n.next to.toNat - 1 := wrapi ⟨by omega, by omega⟩
  conv => whnf
  repeat (first | exact trivial | (refine ⟨by first | exact ⟨rfl, rfl, rfl⟩ | rfl | exact ⟨rfl, rfl⟩ | exact ⟨rfl, fun _ _ => rfl⟩ | exact fun _ _ h => h | (intro _ _ h; cases h; done) | exact ⟨ht1, ht2⟩ | (show to.toNat < 7; omega), ?_⟩; conv => whnf))
  rw [hw]
  refine ⟨fun hlow => ?_, fun hhigh => ?_⟩
  · have hlow : n.next to.toNat - 1 < n.log.base := of_decide_eq_true hlow
    have hk : feedK n to = (mkM 5 n.log.base n.log.baseTerm 0 false [] n.log.book) := by unfold feedK; rw [if_pos hlow]
    conv => whnf
    refine ⟨⟨n, .st A c, os, m, to, (mkM 5 n.log.base n.log.baseTerm 0 false [] n.log.book), none, 0⟩, ⟨by show os.length < 1000; omega, Cells.nil _ _⟩, ?_⟩
    conv => whnf
    repeat (first | exact trivial | (refine ⟨by first | exact ⟨rfl, rfl, rfl⟩ | rfl | exact ⟨rfl, rfl⟩ | exact ⟨rfl, fun _ _ => rfl⟩ | exact fun _ _ h => h | (intro _ _ h; cases h; done), ?_⟩; conv => whnf))
    rintro b rfl
    refine ⟨⟨os ++ [⟨sayN n to (mkM 5 n.log.base n.log.baseTerm 0 false [] n.log.book), none, 0⟩], m⟩, ⟨⟨_, rfl, by unfold feedN; rw [hk]⟩, hsaid.snoc (Cells.nil _ _), fun _ _ h => h⟩, ?_⟩
    conv => whnf
    repeat (first | exact trivial | exact fun _ _ h => h | (refine ⟨by first | exact ⟨rfl, rfl, rfl⟩ | rfl | exact ⟨rfl, rfl⟩ | exact ⟨rfl, fun _ _ => rfl⟩ | exact fun _ _ h => h | (intro _ _ h; cases h; done), ?_⟩; conv => whnf))
  · have hhigh : ¬ n.next to.toNat - 1 < n.log.base := of_decide_eq_false hhigh
    obtain ⟨a, ha⟩ : ∃ a, a = n.next to.toNat - 1 := ⟨_, rfl⟩
    rw [← ha] at hhigh
    rw [← ha]
    obtain ⟨l, hl0⟩ : ∃ l : Nat, l = (a - n.log.base).toNat := ⟨_, rfl⟩
    have hwl : IntKind.i64.wrap (a - n.log.base) = (l : Int) := by rw [wrapi ⟨by omega, by omega⟩]; omega
    have hk : feedK n to = mkM 3 a (termAtN n.log a).1 n.commit false ((n.log.items.drop l).take 16) ByteArray.empty := by unfold feedK; rw [if_neg (by omega), ← ha, ← hl0]
    refine ⟨⟨n.log, A, c, a, m⟩, ⟨hM, by show n.log.items.length < 2 ^ 62; omega, ⟨by omega, by omega⟩, ⟨by omega, by omega⟩⟩, ?_⟩
    conv => whnf
    repeat (first | exact trivial | (refine ⟨by first | exact ⟨rfl, rfl, rfl⟩ | rfl | exact ⟨rfl, rfl⟩ | exact ⟨rfl, fun _ _ => rfl⟩ | exact fun _ _ h => h | (intro _ _ h; cases h; done), ?_⟩; conv => whnf))
    intro _ _
    conv => whnf
    have hll : l ≤ n.log.items.length := by omega
    obtain ⟨xs, hxs⟩ : ∃ xs, xs = (n.log.items.drop l).take 16 := ⟨_, rfl⟩
    have hxl : xs.length = min 16 (n.log.items.length - l) := by rw [hxs, List.length_take, List.length_drop]
    have hxi : ∀ j, j < xs.length → ∃ x, xs[j]? = some x ∧ n.log.items[l + j]? = some x := fun j hj => by
      obtain ⟨x, hx⟩ : ∃ x, xs[j]? = some x := ⟨_, List.getElem?_eq_getElem hj⟩
      refine ⟨x, hx, ?_⟩
      rw [hxs, List.getElem?_take, List.getElem?_drop, if_pos (by omega)] at hx
      exact hx
    refine ⟨Nat, fun j => j ≤ xs.length, fun j => ⟨80, [⟨0, [], .p 0 0⟩, ⟨1, [], .i .i64 to⟩, ⟨4, [], .p 2 0⟩, ⟨6, [], .p 3 0⟩, ⟨7, [], .i .i64 ((l + j : Nat) : Int)⟩], [], (2, .st 24 (logC n.log (.sl A n.log.items.length c))) :: (3, .st 29 (msgC (mkM 3 a (termAtN n.log a).1 n.commit false xs ByteArray.empty) (.rw 4 j))) :: (4, .row 44 6 j (itemsV (xs.take j))) :: turnH 85 1 2 n (.st A c) os, 5⟩, fun _ => m, fun j => xs.length - j, ⟨0, rfl, Nat.zero_le _, ?_⟩, ?_⟩
    conv => whnf
    · conv => whnf
      repeat (first | exact trivial | (refine ⟨by first | exact ⟨rfl, rfl, rfl⟩ | rfl | exact ⟨rfl, rfl⟩ | exact ⟨rfl, fun _ _ => rfl⟩ | exact fun _ _ h => h | (intro _ _ h; cases h; done) | exact hwl, ?_⟩; conv => whnf))
    · intro j hj
      have hcond : (if decide (((l + j : Nat) : Int) < (n.log.items.length : Int)) = true then decide ((j : Int) < 16) else false) = decide (j < xs.length) := by
        rw [ifand, ← Bool.decide_and]
        exact decide_eq_decide.2 (by omega)
      conv => whnf
      rw [hcond]
      refine ⟨fun hlt => ?_, fun hge => ?_⟩
      · have hlt : j < xs.length := of_decide_eq_true hlt
        obtain ⟨x, hx1, hx2⟩ := hxi j hlt
        have hA := hM.some' (by omega)
        conv => whnf
        refine Or.inr ⟨[2, 3], sc77_9, by kernel_rfl, ?_⟩
        conv => whnf
        refine ⟨⟨Int.natCast_nonneg _, by show ((l + j : Nat) : Int) < (n.log.items.length : Int); omega, hA⟩, ?_⟩
        conv => whnf
        refine ⟨.g (itemC x), ⟨rfl, rfl, hM.rd (o := (l + j) * 6 + 0) (by show ((l + j : Nat) : Int).toNat * 6 = _; rw [Int.toNat_natCast, Nat.add_zero]) rfl (by show 0 < 6; decide) (by rw [itemsV_at hx2 0 6 (by omega)]; rfl)⟩, ?_⟩
        conv => whnf
        have hrow : (itemsV (xs.take j)).take (j * 6) ++ itemV x = itemsV (xs.take (j + 1)) := by
          rw [itemsV_snoc hx1, List.take_of_length_le (by rw [itemsV_len, List.length_take]; omega)]
        repeat (first | exact trivial | (refine ⟨by first | exact ⟨rfl, rfl, rfl⟩ | rfl | exact ⟨rfl, rfl⟩ | exact ⟨rfl, fun _ _ => rfl⟩ | exact fun _ _ h => h | (intro _ _ h; cases h; done) | exact Nat.le_refl _ | exact ⟨Nat.le_refl _, by show (j + 1) * 56 ≤ _; omega, by omega⟩, ?_⟩; conv => whnf))
        refine ⟨j + 1, rfl, ⟨hlt, by show xs.length - (j + 1) < xs.length - j; omega⟩, ?_⟩
        conv => whnf
        repeat (first | exact trivial | (refine ⟨by first | exact ⟨rfl, rfl, rfl⟩ | rfl | exact ⟨rfl, rfl⟩ | exact ⟨rfl, fun _ _ => rfl⟩ | exact fun _ _ h => h | (intro _ _ h; cases h; done) | exact wrapi_succ (by omega) | exact ⟨rfl, hrow⟩, ?_⟩; conv => whnf))
      · have hge : ¬ j < xs.length := of_decide_eq_false hge
        have hje : j = xs.length := by omega
        subst hje
        conv => whnf
        intro A3 cap3 m3 hS3
        have h3 : Cells m3 A3 (itemsV xs) := by have := Cells.of_sealed hS3; rwa [List.take_length] at this
        refine ⟨⟨n, .st A c, os, m3, to, (mkM 3 a (termAtN n.log a).1 n.commit false xs ByteArray.empty), A3, cap3⟩, ⟨by show os.length < 1000; omega, h3⟩, ?_⟩
        conv => whnf
        repeat (first | exact trivial | (refine ⟨by first | exact ⟨rfl, rfl, rfl⟩ | rfl | exact ⟨rfl, rfl⟩ | exact ⟨rfl, fun _ _ => rfl⟩ | exact fun _ _ h => h | (intro _ _ h; cases h; done), ?_⟩; conv => whnf))
        rintro b rfl
        refine ⟨⟨os ++ [⟨sayN n to (mkM 3 a (termAtN n.log a).1 n.commit false xs ByteArray.empty), A3, cap3⟩], m3⟩, ⟨⟨_, rfl, by unfold feedN; rw [hk, hxs]⟩, (hsaid.ext hS3.ext).snoc h3 hS3.le, hS3.ext⟩, ?_⟩
        conv => whnf
        repeat (first | exact trivial | exact fun _ _ h => h | (refine ⟨by first | exact ⟨rfl, rfl, rfl⟩ | rfl | exact ⟨rfl, rfl⟩ | exact ⟨rfl, fun _ _ => rfl⟩ | exact fun _ _ h => h | (intro _ _ h; cases h; done) | exact hS3.ext, ?_⟩; conv => whnf))
end Go.Proofs.Ytjpjiniclibgkaa.Sx

namespace Go.Proofs.Ytjpjiniclibgkaa.Sx
open Go

/-- The others below i. -/
def othersL (n : Node) (i : Nat) : List Nat := (List.range i).filter fun k => (k : Int) != n.me
theorem others_yes {n : Node} {i : Nat} (h : ((i : Int) != n.me) = true) : othersL n (i + 1) = othersL n i ++ [i] := by
  unfold othersL
  rw [List.range_succ, List.filter_append]
  simp only [List.filter, h]
theorem others_no {n : Node} {i : Nat} (h : ((i : Int) != n.me) = false) : othersL n (i + 1) = othersL n i := by
  unfold othersL
  rw [List.range_succ, List.filter_append]
  simp only [List.filter, h, List.append_nil]
theorem others_len (n : Node) (i : Nat) : (othersL n i).length ≤ i := by
  unfold othersL
  have := List.length_filter_le (fun k : Nat => (k : Int) != n.me) (List.range i)
  simpa using this
/-- What has been said since: these messages, in order. -/
def Since (os os' : List OMsg) (ks : List Msg) : Prop := ∃ new, os' = os ++ new ∧ new.map (·.k) = ks
theorem Since.refl (os : List OMsg) : Since os os [] := ⟨[], by simp, rfl⟩
theorem Since.snoc {os os' : List OMsg} {ks : List Msg} (h : Since os os' ks) {o : OMsg} {k : Msg} (hk : o.k = k) : Since os (os' ++ [o]) (ks ++ [k]) := by
  obtain ⟨new, rfl, rfl⟩ := h
  exact ⟨new ++ [o], by simp, by simp [hk]⟩
theorem Since.len {os os' : List OMsg} {ks : List Msg} (h : Since os os' ks) : os'.length = os.length + ks.length := by
  obtain ⟨new, rfl, rfl⟩ := h
  simp
theorem Since.trans {a b c : List OMsg} {k l : List Msg} (h : Since a b k) (h' : Since b c l) : Since a c (k ++ l) := by
  obtain ⟨x, rfl, rfl⟩ := h
  obtain ⟨y, rfl, rfl⟩ := h'
  exact ⟨x ++ y, by simp, by simp⟩
def feedAllK (n : Node) : List Msg := (othersL n n.size.toNat).map fun i : Nat => feedN n (i : Int)
def NearAll (n : Node) : Prop := ∀ i : Nat, (i : Int) < n.size → Near n (i : Int)
structure AllG where
  n : Node
  A : Option Addr
  c : Nat
  os : List OMsg
  m : Mem
def allSpec (t : TypeId) (args : List SV) : Spec where
  A := AllG
  R := fun ⟨n, A, c, os, m⟩ => Fit n ∧ NearAll n ∧ (Cells m A (itemsV n.log.items) ∧ n.log.items.length ≤ c) ∧ Said m os ∧ os.length < 800
  J := fun ⟨_, _, _, _, m⟩ => m
  args := fun _ => .p 0 0 :: args
  h := fun ⟨n, A, c, os, _⟩ => turnH t 1 2 n (.st A c) os
  nx := 2
  Bb := SaidB
  C := fun ⟨n, _, _, os, m⟩ ⟨os', m'⟩ => Since os os' (feedAllK n) ∧ Said m' os' ∧ ∀ b x, m b = some x → m' b = some x
  out := fun _ _ => .ret (.t [])
  h2 := fun ⟨n, A, c, _, _⟩ ⟨os', _⟩ => turnH t 3 4 n (.st A c) os'
  nx2 := 5
  J2 := fun _ ⟨_, m'⟩ => m'
  ext := true
  sd := [(0, 7)]
def S5 : List (Nat × Spec) := (64, feedSpec 78) :: (77, feedSpec 85) :: S4
theorem S5_all : ∀ f s, findS S5 f = some s → SpecOk Try.prog f s := CP_cons (CP_cons S4_all refFeed_ok) feed_ok
theorem S5_ok : CPOk Try.prog (CPs S5) := CPs_ok S5_all
structure LoopG where
  i : Nat
  os : List OMsg
  m : Mem
set_option maxRecDepth 100000 in
theorem others_ok : SpecOk Try.prog 63 (allSpec 78 [.fn 64 [.p 0 0] []]) := by
  refine spec_of_exec (fn := Try.f63) (c := Try.f63.body.getD .skip) (d := 1) (lv := ([0, 1, 4, 9, 10, 11, 19])) (DP := DPx T1 (CPs S5) ([0, 1, 4, 9, 10, 11, 19])) T1_ok S5_ok (fun B => DPx_ok T1_ok ord S5_ok B) (allSpec 78 [.fn 64 [.p 0 0] []]) (by rfl) (by rfl) (by rfl) (fun _ => Nat.le_of_ble_eq_true (by kernel_rfl)) ?_
  rintro ⟨n, A, c, os, m⟩ ⟨hf, hnear, ⟨hM, hcap⟩, hsaid, hos⟩
  have hs1 := hf.s1
  have hs2 := hf.s2
  conv => whnf
  refine ⟨LoopG, fun ⟨i, os', m'⟩ => (i : Int) ≤ n.size ∧ Since os os' ((othersL n i).map fun i : Nat => feedN n (i : Int)) ∧ Said m' os' ∧ ∀ b x, m b = some x → m' b = some x, fun ⟨i, os', _⟩ => ⟨24, [⟨0, [], .p 0 0⟩, ⟨1, [], .fn 64 [.p 0 0] []⟩, ⟨9, [], .i .i64 n.size⟩, ⟨10, [], .i .i64 i⟩], [], turnH 78 2 3 n (.st A c) os', 4⟩, fun ⟨_, _, m'⟩ => m', fun ⟨i, _, _⟩ => n.size.toNat - i, ⟨⟨0, os, m⟩, rfl, ⟨by show (0 : Int) ≤ _; omega, Since.refl os, hsaid, fun _ _ h => h⟩, ?_⟩, ?_⟩
  conv => whnf
  · conv => whnf
    repeat (first | exact trivial | (refine ⟨by first | exact ⟨rfl, rfl, rfl⟩ | rfl | exact ⟨rfl, rfl⟩ | exact ⟨rfl, fun _ _ => rfl⟩ | exact fun _ _ h => h | (intro _ _ h; cases h; done), ?_⟩; conv => whnf))
  · rintro ⟨i, os', m'⟩ ⟨hi, hsince, hsaid', hext⟩
    refine ⟨fun hlt => ?_, fun hge => ?_⟩
    conv => whnf
    · have hlt : (i : Int) < n.size := of_decide_eq_true hlt
      have hlen := hsince.len
      have hol := others_len n i
      rw [List.length_map] at hlen
      refine ⟨fun hne => ?_, fun heq => ?_⟩
      conv => whnf
      · conv => whnf
        refine ⟨⟨n, A, c, os', m', (i : Int)⟩, ⟨hf, hnear i hlt, ⟨hM.ext hext, hcap⟩, hsaid', by show os'.length < 900; omega⟩, ?_⟩
        conv => whnf
        repeat (first | exact trivial | (refine ⟨by first | exact ⟨rfl, rfl, rfl⟩ | rfl | exact ⟨rfl, rfl⟩ | exact ⟨rfl, fun _ _ => rfl⟩ | exact fun _ _ h => h | (intro _ _ h; cases h; done), ?_⟩; conv => whnf))
        rintro ⟨os2, m2⟩ ⟨⟨o, rfl, hk⟩, hsaid2, hext2⟩ m3 h3 h4
        refine ⟨⟨i + 1, os' ++ [o], m3⟩, rfl, ⟨⟨by show ((i + 1 : Nat) : Int) ≤ n.size; omega, by rw [others_yes hne, List.map_append]; exact hsince.snoc hk, hsaid2.ext h4, fun b x h => h4 b x (hext2 b x (hext b x h))⟩, by show n.size.toNat - (i + 1) < n.size.toNat - i; omega⟩, ?_⟩
        conv => whnf
        repeat (first | exact trivial | (refine ⟨by first | exact ⟨rfl, rfl, rfl⟩ | rfl | exact ⟨rfl, rfl⟩ | exact ⟨rfl, fun _ _ => rfl⟩ | exact fun _ _ h => h | (intro _ _ h; cases h; done) | exact wrapi_succ (by omega), ?_⟩; conv => whnf))
      · refine ⟨⟨i + 1, os', m'⟩, rfl, ⟨⟨by show ((i + 1 : Nat) : Int) ≤ n.size; omega, by rw [others_no heq]; exact hsince, hsaid', hext⟩, by show n.size.toNat - (i + 1) < n.size.toNat - i; omega⟩, ?_⟩
        conv => whnf
        repeat (first | exact trivial | (refine ⟨by first | exact ⟨rfl, rfl, rfl⟩ | rfl | exact ⟨rfl, rfl⟩ | exact ⟨rfl, fun _ _ => rfl⟩ | exact fun _ _ h => h | (intro _ _ h; cases h; done) | exact wrapi_succ (by omega), ?_⟩; conv => whnf))
    · have hge : ¬ (i : Int) < n.size := of_decide_eq_false hge
      have hin : n.size.toNat = i := by omega
      refine ⟨⟨os', m'⟩, ⟨by unfold feedAllK; rw [hin]; exact hsince, hsaid', hext⟩, ?_⟩
      conv => whnf
      repeat (first | exact trivial | exact fun _ _ h => h | (refine ⟨by first | exact ⟨rfl, rfl, rfl⟩ | rfl | exact ⟨rfl, rfl⟩ | exact ⟨rfl, fun _ _ => rfl⟩ | exact fun _ _ h => h | (intro _ _ h; cases h; done) | exact hext, ?_⟩; conv => whnf))
set_option maxRecDepth 100000 in
theorem feedAll_ok : SpecOk Try.prog 65 (allSpec 85 []) := by
  refine spec_of_exec (fn := Try.f65) (c := Try.f65.body.getD .skip) (d := 1) (lv := ([0, 2, 9, 18])) (DP := DPx T1 (CPs S5) ([0, 2, 9, 18])) T1_ok S5_ok (fun B => DPx_ok T1_ok ord S5_ok B) (allSpec 85 []) (by rfl) (by rfl) (by rfl) (fun _ => Nat.le_of_ble_eq_true (by kernel_rfl)) ?_
  rintro ⟨n, A, c, os, m⟩ ⟨hf, hnear, ⟨hM, hcap⟩, hsaid, hos⟩
  have hs1 := hf.s1
  have hs2 := hf.s2
  conv => whnf
  refine ⟨LoopG, fun ⟨i, os', m'⟩ => (i : Int) ≤ n.size ∧ Since os os' ((othersL n i).map fun i : Nat => feedN n (i : Int)) ∧ Said m' os' ∧ ∀ b x, m b = some x → m' b = some x, fun ⟨i, os', _⟩ => ⟨22, [⟨0, [], .p 0 0⟩, ⟨2, [], .i .i64 i⟩], [], turnH 85 2 3 n (.st A c) os', 4⟩, fun ⟨_, _, m'⟩ => m', fun ⟨i, _, _⟩ => n.size.toNat - i, ⟨⟨0, os, m⟩, rfl, ⟨by show (0 : Int) ≤ _; omega, Since.refl os, hsaid, fun _ _ h => h⟩, ?_⟩, ?_⟩
  conv => whnf
  · conv => whnf
    repeat (first | exact trivial | (refine ⟨by first | exact ⟨rfl, rfl, rfl⟩ | rfl | exact ⟨rfl, rfl⟩ | exact ⟨rfl, fun _ _ => rfl⟩ | exact fun _ _ h => h | (intro _ _ h; cases h; done), ?_⟩; conv => whnf))
  · rintro ⟨i, os', m'⟩ ⟨hi, hsince, hsaid', hext⟩
    refine ⟨fun hlt => ?_, fun hge => ?_⟩
    conv => whnf
    · have hlt : (i : Int) < n.size := of_decide_eq_true hlt
      have hlen := hsince.len
      have hol := others_len n i
      rw [List.length_map] at hlen
      refine ⟨fun hne => ?_, fun heq => ?_⟩
      conv => whnf
      · conv => whnf
        refine ⟨⟨n, A, c, os', m', (i : Int)⟩, ⟨hf, hnear i hlt, ⟨hM.ext hext, hcap⟩, hsaid', by show os'.length < 900; omega⟩, ?_⟩
        conv => whnf
        repeat (first | exact trivial | (refine ⟨by first | exact ⟨rfl, rfl, rfl⟩ | rfl | exact ⟨rfl, rfl⟩ | exact ⟨rfl, fun _ _ => rfl⟩ | exact fun _ _ h => h | (intro _ _ h; cases h; done), ?_⟩; conv => whnf))
        rintro ⟨os2, m2⟩ ⟨⟨o, rfl, hk⟩, hsaid2, hext2⟩ m3 h3 h4
        refine ⟨⟨i + 1, os' ++ [o], m3⟩, rfl, ⟨⟨by show ((i + 1 : Nat) : Int) ≤ n.size; omega, by rw [others_yes hne, List.map_append]; exact hsince.snoc hk, hsaid2.ext h4, fun b x h => h4 b x (hext2 b x (hext b x h))⟩, by show n.size.toNat - (i + 1) < n.size.toNat - i; omega⟩, ?_⟩
        conv => whnf
        repeat (first | exact trivial | (refine ⟨by first | exact ⟨rfl, rfl, rfl⟩ | rfl | exact ⟨rfl, rfl⟩ | exact ⟨rfl, fun _ _ => rfl⟩ | exact fun _ _ h => h | (intro _ _ h; cases h; done) | exact wrapi_succ (by omega), ?_⟩; conv => whnf))
      · refine ⟨⟨i + 1, os', m'⟩, rfl, ⟨⟨by show ((i + 1 : Nat) : Int) ≤ n.size; omega, by rw [others_no heq]; exact hsince, hsaid', hext⟩, by show n.size.toNat - (i + 1) < n.size.toNat - i; omega⟩, ?_⟩
        conv => whnf
        repeat (first | exact trivial | (refine ⟨by first | exact ⟨rfl, rfl, rfl⟩ | rfl | exact ⟨rfl, rfl⟩ | exact ⟨rfl, fun _ _ => rfl⟩ | exact fun _ _ h => h | (intro _ _ h; cases h; done) | exact wrapi_succ (by omega), ?_⟩; conv => whnf))
    · have hge : ¬ (i : Int) < n.size := of_decide_eq_false hge
      have hin : n.size.toNat = i := by omega
      refine ⟨⟨os', m'⟩, ⟨by unfold feedAllK; rw [hin]; exact hsince, hsaid', hext⟩, ?_⟩
      conv => whnf
      repeat (first | exact trivial | exact fun _ _ h => h | (refine ⟨by first | exact ⟨rfl, rfl, rfl⟩ | rfl | exact ⟨rfl, rfl⟩ | exact ⟨rfl, fun _ _ => rfl⟩ | exact fun _ _ h => h | (intro _ _ h; cases h; done) | exact hext, ?_⟩; conv => whnf))
end Go.Proofs.Ytjpjiniclibgkaa.Sx

namespace Go.Proofs.Ytjpjiniclibgkaa.Sx
open Go

/-- The entry is in the log, and the leader has it. -/
def layN (n : Node) (e : Entry) : Node :=
  { n with log := { n.log with items := n.log.items ++ [⟨n.log.term, e⟩] }
           mat := fun j => if j = n.me.toNat then n.log.base + n.log.items.length + 1 else n.mat j
           next := fun j => if j = n.me.toNat then n.log.base + n.log.items.length + 1 + 1 else n.next j }
def putN (n : Node) (e : Entry) : Node := { layN n e with commit := commitN (layN n e) }
structure AddG where
  n : Node
  e : Entry
  os : List OMsg
  m : Mem
structure AddB where
  n : Node
  A : Option Addr
  c : Nat
  os : List OMsg
  m : Mem
def addSpec (t : TypeId) : Spec where
  A := AddG
  R := fun ⟨n, e, os, m⟩ => Fit n ∧ n.log.items.length ≤ 299 ∧ n.commit ≤ n.log.base + n.log.items.length ∧ NearAll n ∧ Mono (layN n e) ∧ Said m os ∧ os.length < 700
  J := fun ⟨_, _, _, m⟩ => m
  args := fun ⟨_, e, _, _⟩ => [.p 0 0, .g (entryC e)]
  h := fun ⟨n, _, os, _⟩ => turnH t 1 2 n .own os
  nx := 3
  Bb := AddB
  C := fun ⟨n, e, os, m⟩ ⟨n', A, c, os', m'⟩ => n' = putN n e ∧ Since os os' (feedAllK n') ∧ Said m' os' ∧ (Cells m' A (itemsV n'.log.items) ∧ n'.log.items.length ≤ c) ∧ ∀ b x, m b = some x → m' b = some x
  out := fun _ _ => .ret (.t [])
  h2 := fun _ ⟨n', A, c, os', _⟩ => turnH t 3 4 n' (.st A c) os'
  nx2 := 5
  J2 := fun _ ⟨_, _, _, _, m'⟩ => m'
  ext := true
def S6 : List (Nat × Spec) := (63, allSpec 78 [.fn 64 [.p 0 0] []]) :: (65, allSpec 85 []) :: S5
theorem S6_all : ∀ f s, findS S6 f = some s → SpecOk Try.prog f s := CP_cons (CP_cons S5_all feedAll_ok) others_ok
theorem S6_ok : CPOk Try.prog (CPs S6) := CPs_ok S6_all
theorem commitGo_le {n : Node} : ∀ k : Nat, n.commit ≤ commitGo n k ∧ commitGo n k ≤ n.commit + k
  | 0 => ⟨Int.le_refl _, by simp [commitGo]⟩
  | k + 1 => by
    have ih := commitGo_le (n := n) k
    simp only [commitGo]
    split
    · constructor <;> omega
    · split
      · constructor <;> omega
      · constructor <;> omega
theorem near_put {n : Node} {e : Entry} (h : NearAll n) : NearAll (putN n e) := by
  intro i hi
  obtain ⟨h1, h2, h3, h4⟩ := h i hi
  have hl : ((putN n e).log.items.length : Int) = n.log.items.length + 1 := by show ((n.log.items ++ [_]).length : Int) = _; rw [List.length_append]; rfl
  have hb : (putN n e).log.base = n.log.base := rfl
  refine ⟨h1, h2, ?_, ?_⟩
  · show 0 ≤ if (i : Int).toNat = n.me.toNat then _ else n.next (i : Int).toNat
    split <;> omega
  · show (if (i : Int).toNat = n.me.toNat then _ else n.next (i : Int).toNat) ≤ _
    rw [hl, hb]
    split <;> omega
set_option maxRecDepth 100000 in
theorem add_ok : SpecOk Try.prog 67 (addSpec 78) := by
  refine spec_of_exec (fn := Try.f67) (c := Try.f67.body.getD .skip) (d := 0) (lv := ([0, 1, 3, 4])) (DP := DPx T1 (CPs S6) ([0, 1, 3, 4])) T1_ok S6_ok (fun B => DPx_ok T1_ok ord S6_ok B) (addSpec 78) (by rfl) (by rfl) (by rfl) (fun _ => Nat.le_of_ble_eq_true (by kernel_rfl)) ?_
  rintro ⟨n, e, os, m⟩ ⟨hf, hl9, hcl, hnear, hmono, hsaid, hos⟩
  obtain ⟨hs1, hs2, hm1, hm2, hb1, hb2, hl, hc1, hc2⟩ := hf
  have hf0 : Fit n := ⟨hs1, hs2, hm1, hm2, hb1, hb2, hl, hc1, hc2⟩
  have hf' : Fit (layN n e) := ⟨hs1, hs2, hm1, hm2, hb1, hb2, by show (n.log.items ++ [_]).length ≤ 300; rw [List.length_append]; exact Nat.succ_le_succ hl9, hc1, hc2⟩
  have hlen : n.log.items.length + 1 = (layN n e).log.items.length := by show _ = (n.log.items ++ [_]).length; rw [List.length_append]; rfl
  have hlast : (lastN (layN n e).log).1 = n.log.base + n.log.items.length + 1 := by rw [last_fit hf', ← hlen]; show n.log.base + ((n.log.items.length + 1 : Nat) : Int) = _; omega
  have hrow : (itemsV n.log.items).take (n.log.items.length * 6) ++ itemV ⟨n.log.term, e⟩ = itemsV (layN n e).log.items := by
    rw [List.take_of_length_le (by rw [itemsV_len]; exact Nat.le_refl _)]
    show _ = itemsV (n.log.items ++ [_])
    rw [itemsV_append]; simp [itemsV]
  have hw : IntKind.i64.wrap (n.log.base + n.log.items.length + 1 + 1) = n.log.base + n.log.items.length + 1 + 1 := wrapi ⟨by omega, by omega⟩
  have hnx : 7 = 7 ∧ ∀ j, j < 7 → (if j = n.me.toNat then IntKind.i64.wrap (n.log.base + n.log.items.length + 1 + 1) else n.next j) = (layN n e).next j := ⟨rfl, fun j _ => by rw [hw]; rfl⟩
  conv => whnf
  refine Or.inr ⟨[0], sc67_1, by kernel_rfl, ?_⟩
  conv => whnf
  repeat (first | exact trivial | (refine ⟨by first | exact ⟨rfl, rfl, rfl⟩ | rfl | exact ⟨rfl, rfl⟩ | exact ⟨rfl, fun _ _ => rfl⟩ | exact fun _ _ h => h | (intro _ _ h; cases h; done) | exact ⟨Nat.le_refl _, by show (n.log.items.length + 1) * 56 ≤ _; omega, by omega⟩ | exact Nat.le_refl _, ?_⟩; conv => whnf))
  intro A' cap m' hS
  have hc' : Cells m' A' (itemsV (layN n e).log.items) := by have := Cells.of_sealed hS; rw [← hrow]; exact this
  refine ⟨⟨(layN n e).log, A', cap, m'⟩, ⟨hc', by show (layN n e).log.items.length < 2 ^ 62; omega⟩, ?_⟩
  conv => whnf
  repeat (first | exact trivial | (refine ⟨by first | exact ⟨rfl, rfl, rfl⟩ | rfl | exact ⟨rfl, rfl⟩ | exact ⟨rfl, fun _ _ => rfl⟩ | exact fun _ _ h => h | (intro _ _ h; cases h; done) | exact ⟨rfl, hlen, rfl⟩, ?_⟩; conv => whnf))
  intro _ _
  conv => whnf
  rw [hlast]
  refine Or.inr ⟨[], sc67_3, by kernel_rfl, ?_⟩
  conv => whnf
  repeat (first | exact trivial | (refine ⟨by first | exact ⟨rfl, rfl, rfl⟩ | rfl | exact ⟨rfl, rfl⟩ | exact ⟨rfl, fun _ _ => rfl⟩ | exact fun _ _ h => h | (intro _ _ h; cases h; done) | exact ⟨hm1, by show n.me < 7; omega⟩ | (show n.me.toNat < 7; omega), ?_⟩; conv => whnf))
  refine ⟨⟨layN n e, .own, os, m⟩, ⟨hf', hmono, trivial⟩, ?_⟩
  conv => whnf
  repeat (first | exact trivial | (refine ⟨by first | exact ⟨rfl, rfl, rfl⟩ | rfl | exact ⟨rfl, rfl⟩ | exact ⟨rfl, fun _ _ => rfl⟩ | exact fun _ _ h => h | (intro _ _ h; cases h; done) | exact hlen | exact hnx | exact ⟨hlen.symm, hrow.symm⟩ | exact ⟨hlen, hrow⟩, ?_⟩; conv => whnf))
  intro b hb
  have hb : b = putN n e := hb
  have hbn : NearAll b := by rw [hb]; exact near_put hnear
  have hbf : Fit b := by
    rw [hb]
    have := commitGo_le (n := layN n e) ((lastN (layN n e).log).1 - (layN n e).commit).toNat
    have hcc : (layN n e).commit = n.commit := rfl
    refine ⟨hs1, hs2, hm1, hm2, hb1, hb2, hf'.l, ?_, ?_⟩
    · show 0 ≤ commitN (layN n e); unfold commitN; omega
    · show commitN (layN n e) ≤ 2 ^ 42; unfold commitN; omega
  conv => whnf
  intro A2 c2 m2 hS2
  have hc2 : Cells m2 A2 (itemsV b.log.items) := .of_sealed hS2
  refine ⟨⟨b, A2, c2, os, m2⟩, ⟨hbf, hbn, ⟨hc2, hS2.le⟩, hsaid.ext hS2.ext, by show os.length < 800; omega⟩, ?_⟩
  conv => whnf
  repeat (first | exact trivial | (refine ⟨by first | exact ⟨rfl, rfl, rfl⟩ | rfl | exact ⟨rfl, rfl⟩ | exact ⟨rfl, fun _ _ => rfl⟩ | exact fun _ _ h => h | (intro _ _ h; cases h; done), ?_⟩; conv => whnf))
  rintro ⟨os3, m3⟩ ⟨hsince, hsaid3, hext3⟩ m4 h5 h6
  refine ⟨⟨b, A2, c2, os3, m4⟩, ⟨hb, hsince, hsaid3.ext h6, ⟨hc2.ext fun b x h => h6 b x (hext3 b x h), hS2.le⟩, fun b x h => h5 b x (hS2.ext b x h)⟩, ?_⟩
  conv => whnf
  repeat (first | exact trivial | exact fun _ _ h => h | (refine ⟨by first | exact ⟨rfl, rfl, rfl⟩ | rfl | exact ⟨rfl, rfl⟩ | exact ⟨rfl, fun _ _ => rfl⟩ | exact fun _ _ h => h | (intro _ _ h; cases h; done) | exact fun b x h => h5 b x (hS2.ext b x h), ?_⟩; conv => whnf))
set_option maxRecDepth 100000 in
theorem refAdd_ok : SpecOk Try.prog 68 (addSpec 85) := by
  refine spec_of_exec (fn := Try.f68) (c := Try.f68.body.getD .skip) (d := 0) (lv := ([0, 1, 3, 4])) (DP := DPx T1 (CPs S6) ([0, 1, 3, 4])) T1_ok S6_ok (fun B => DPx_ok T1_ok ord S6_ok B) (addSpec 85) (by rfl) (by rfl) (by rfl) (fun _ => Nat.le_of_ble_eq_true (by kernel_rfl)) ?_
  rintro ⟨n, e, os, m⟩ ⟨hf, hl9, hcl, hnear, hmono, hsaid, hos⟩
  obtain ⟨hs1, hs2, hm1, hm2, hb1, hb2, hl, hc1, hc2⟩ := hf
  have hf0 : Fit n := ⟨hs1, hs2, hm1, hm2, hb1, hb2, hl, hc1, hc2⟩
  have hf' : Fit (layN n e) := ⟨hs1, hs2, hm1, hm2, hb1, hb2, by show (n.log.items ++ [_]).length ≤ 300; rw [List.length_append]; exact Nat.succ_le_succ hl9, hc1, hc2⟩
  have hlen : n.log.items.length + 1 = (layN n e).log.items.length := by show _ = (n.log.items ++ [_]).length; rw [List.length_append]; rfl
  have hlast : (lastN (layN n e).log).1 = n.log.base + n.log.items.length + 1 := by rw [last_fit hf', ← hlen]; show n.log.base + ((n.log.items.length + 1 : Nat) : Int) = _; omega
  have hrow : (itemsV n.log.items).take (n.log.items.length * 6) ++ itemV ⟨n.log.term, e⟩ = itemsV (layN n e).log.items := by
    rw [List.take_of_length_le (by rw [itemsV_len]; exact Nat.le_refl _)]
    show _ = itemsV (n.log.items ++ [_])
    rw [itemsV_append]; simp [itemsV]
  have hw : IntKind.i64.wrap (n.log.base + n.log.items.length + 1 + 1) = n.log.base + n.log.items.length + 1 + 1 := wrapi ⟨by omega, by omega⟩
  have hnx : 7 = 7 ∧ ∀ j, j < 7 → (if j = n.me.toNat then IntKind.i64.wrap (n.log.base + n.log.items.length + 1 + 1) else n.next j) = (layN n e).next j := ⟨rfl, fun j _ => by rw [hw]; rfl⟩
  conv => whnf
  refine Or.inr ⟨[0], sc68_1, by kernel_rfl, ?_⟩
  conv => whnf
  repeat (first | exact trivial | (refine ⟨by first | exact ⟨rfl, rfl, rfl⟩ | rfl | exact ⟨rfl, rfl⟩ | exact ⟨rfl, fun _ _ => rfl⟩ | exact fun _ _ h => h | (intro _ _ h; cases h; done) | exact ⟨Nat.le_refl _, by show (n.log.items.length + 1) * 56 ≤ _; omega, by omega⟩ | exact Nat.le_refl _, ?_⟩; conv => whnf))
  intro A' cap m' hS
  have hc' : Cells m' A' (itemsV (layN n e).log.items) := by have := Cells.of_sealed hS; rw [← hrow]; exact this
  refine ⟨⟨(layN n e).log, A', cap, m'⟩, ⟨hc', by show (layN n e).log.items.length < 2 ^ 62; omega⟩, ?_⟩
  conv => whnf
  repeat (first | exact trivial | (refine ⟨by first | exact ⟨rfl, rfl, rfl⟩ | rfl | exact ⟨rfl, rfl⟩ | exact ⟨rfl, fun _ _ => rfl⟩ | exact fun _ _ h => h | (intro _ _ h; cases h; done) | exact ⟨rfl, hlen, rfl⟩, ?_⟩; conv => whnf))
  intro _ _
  conv => whnf
  rw [hlast]
  refine Or.inr ⟨[], sc68_3, by kernel_rfl, ?_⟩
  conv => whnf
  repeat (first | exact trivial | (refine ⟨by first | exact ⟨rfl, rfl, rfl⟩ | rfl | exact ⟨rfl, rfl⟩ | exact ⟨rfl, fun _ _ => rfl⟩ | exact fun _ _ h => h | (intro _ _ h; cases h; done) | exact ⟨hm1, by show n.me < 7; omega⟩ | (show n.me.toNat < 7; omega), ?_⟩; conv => whnf))
  refine Or.inr ⟨[], sc68_4, by kernel_rfl, ?_⟩
  conv => whnf
  repeat (first | exact trivial | (refine ⟨by first | exact ⟨rfl, rfl, rfl⟩ | rfl | exact ⟨rfl, rfl⟩ | exact ⟨rfl, fun _ _ => rfl⟩ | exact fun _ _ h => h | (intro _ _ h; cases h; done) | exact ⟨hm1, by show n.me < 7; omega⟩ | (show n.me.toNat < 7; omega), ?_⟩; conv => whnf))
  refine ⟨⟨layN n e, .own, os, m⟩, ⟨hf', hmono, trivial⟩, ?_⟩
  conv => whnf
  repeat (first | exact trivial | (refine ⟨by first | exact ⟨rfl, rfl, rfl⟩ | rfl | exact ⟨rfl, rfl⟩ | exact ⟨rfl, fun _ _ => rfl⟩ | exact fun _ _ h => h | (intro _ _ h; cases h; done) | exact hlen | exact hnx | exact ⟨hlen.symm, hrow.symm⟩ | exact ⟨hlen, hrow⟩, ?_⟩; conv => whnf))
  intro b hb
  have hb : b = putN n e := hb
  have hbn : NearAll b := by rw [hb]; exact near_put hnear
  have hbf : Fit b := by
    rw [hb]
    have := commitGo_le (n := layN n e) ((lastN (layN n e).log).1 - (layN n e).commit).toNat
    have hcc : (layN n e).commit = n.commit := rfl
    refine ⟨hs1, hs2, hm1, hm2, hb1, hb2, hf'.l, ?_, ?_⟩
    · show 0 ≤ commitN (layN n e); unfold commitN; omega
    · show commitN (layN n e) ≤ 2 ^ 42; unfold commitN; omega
  conv => whnf
  intro A2 c2 m2 hS2
  have hc2 : Cells m2 A2 (itemsV b.log.items) := .of_sealed hS2
  refine ⟨⟨b, A2, c2, os, m2⟩, ⟨hbf, hbn, ⟨hc2, hS2.le⟩, hsaid.ext hS2.ext, by show os.length < 800; omega⟩, ?_⟩
  conv => whnf
  repeat (first | exact trivial | (refine ⟨by first | exact ⟨rfl, rfl, rfl⟩ | rfl | exact ⟨rfl, rfl⟩ | exact ⟨rfl, fun _ _ => rfl⟩ | exact fun _ _ h => h | (intro _ _ h; cases h; done), ?_⟩; conv => whnf))
  rintro ⟨os3, m3⟩ ⟨hsince, hsaid3, hext3⟩ m4 h5 h6
  refine ⟨⟨b, A2, c2, os3, m4⟩, ⟨hb, hsince, hsaid3.ext h6, ⟨hc2.ext fun b x h => h6 b x (hext3 b x h), hS2.le⟩, fun b x h => h5 b x (hS2.ext b x h)⟩, ?_⟩
  conv => whnf
  repeat (first | exact trivial | exact fun _ _ h => h | (refine ⟨by first | exact ⟨rfl, rfl, rfl⟩ | rfl | exact ⟨rfl, rfl⟩ | exact ⟨rfl, fun _ _ => rfl⟩ | exact fun _ _ h => h | (intro _ _ h; cases h; done) | exact fun b x h => h5 b x (hS2.ext b x h), ?_⟩; conv => whnf))
end Go.Proofs.Ytjpjiniclibgkaa.Sx

namespace Go.Proofs.Ytjpjiniclibgkaa.Sx
open Go

def popF : Nat → Nat → Nat
  | 0, _ => 0
  | f + 1, v => v % 2 + popF f (v / 2)
def popN (v : Nat) : Nat := popF 8 v
def sh (x : Int) (k : Nat) : Int := x.fdiv (2 ^ min k IntKind.u64.bits)
def ones1 (x : Int) : Int := IntKind.u64.wrap (bits .and .u64 (sh x 1) 6148914691236517205 + bits .and .u64 x 6148914691236517205)
def ones2 (x : Int) : Int := IntKind.u64.wrap (bits .and .u64 (sh x 2) 3689348814741910323 + bits .and .u64 x 3689348814741910323)
def ones3 (x : Int) : Int := bits .and .u64 (IntKind.u64.wrap (sh x 4 + x)) 1085102592571150095
def ones4 (k : Nat) (x : Int) : Int := IntKind.u64.wrap (x + sh x k)
def ones (x : Int) : Int := bits .and .i64 (IntKind.i64.wrap (ones4 32 (ones4 16 (ones4 8 (ones3 (ones2 (ones1 x))))))) 127
theorem ones_eq {v : Nat} (h : v < 256) : ones (v : Int) = (popN v : Int) := by
  have key : ((List.range 256).all fun v => ones (v : Int) == (popN v : Int)) = true := by kernel_rfl
  have := List.all_eq_true.1 key v (List.mem_range.2 h)
  exact eq_of_beq this
def popSpec : Spec where
  A := Nat
  R := fun v => v < 256
  J := fun _ _ => none
  args := fun v => [.i .u64 (v : Int)]
  h := fun _ => []
  nx := 0
  Bb := Unit
  C := fun _ _ => True
  out := fun v _ => .ret (.i .i64 (popN v : Int))
  h2 := fun _ _ => []
  nx2 := 0
set_option maxRecDepth 100000 in
theorem pop64_ok : SpecOk Try.prog 79 popSpec := by
  refine spec_of_exec (fn := Try.f79) (c := Try.f79.body.getD .skip) (d := 0) (lv := ([0, 2])) (DP := DPx T1 (CPs S6) ([0, 2])) T1_ok S6_ok (fun B => DPx_ok T1_ok ord S6_ok B) popSpec (by rfl) (by rfl) (by rfl) (fun _ => Nat.le_of_ble_eq_true (by kernel_rfl)) ?_
  intro v hv
  conv => whnf
  repeat (first | exact trivial | (refine ⟨by first | exact ⟨rfl, rfl, rfl⟩ | rfl | exact ⟨rfl, rfl⟩ | exact ⟨rfl, fun _ _ => rfl⟩ | exact fun _ _ h => h | (intro _ _ h; cases h; done) | (show (0 : Int) ≤ _; decide), ?_⟩; conv => whnf))
  refine ⟨(), trivial, ?_⟩
  conv => whnf
  repeat (first | exact trivial | exact fun _ _ h => h | (refine ⟨by first | exact ⟨rfl, rfl, rfl⟩ | rfl | exact ⟨rfl, rfl⟩ | exact ⟨rfl, fun _ _ => rfl⟩ | exact fun _ _ h => h | (intro _ _ h; cases h; done) | exact ones_eq hv, ?_⟩; conv => whnf))
def S7 : List (Nat × Spec) := (79, popSpec) :: (67, addSpec 78) :: (68, addSpec 85) :: S6
theorem S7_all : ∀ f s, findS S7 f = some s → SpecOk Try.prog f s := CP_cons (CP_cons (CP_cons S6_all refAdd_ok) add_ok) pop64_ok
theorem S7_ok : CPOk Try.prog (CPs S7) := CPs_ok S7_all
set_option maxRecDepth 100000 in
theorem pop_ok : SpecOk Try.prog 71 popSpec := by
  refine spec_of_exec (fn := Try.f71) (c := Try.f71.body.getD .skip) (d := 0) (lv := ([0, 2])) (DP := DPx T1 (CPs S7) ([0, 2])) T1_ok S7_ok (fun B => DPx_ok T1_ok ord S7_ok B) popSpec (by rfl) (by rfl) (by rfl) (fun _ => Nat.le_of_ble_eq_true (by kernel_rfl)) ?_
  intro v hv
  refine ⟨fun h => (by cases h), fun _ => ?_⟩
  conv => whnf
  refine ⟨v, hv, ?_⟩
  conv => whnf
  repeat (first | exact trivial | (refine ⟨by first | exact ⟨rfl, rfl, rfl⟩ | rfl | exact ⟨rfl, rfl⟩ | exact ⟨rfl, fun _ _ => rfl⟩ | exact fun _ _ h => h | (intro _ _ h; cases h; done), ?_⟩; conv => whnf))
  intro _ _
  refine ⟨(), trivial, ?_⟩
  conv => whnf
  repeat (first | exact trivial | exact fun _ _ h => h | (refine ⟨by first | exact ⟨rfl, rfl, rfl⟩ | rfl | exact ⟨rfl, rfl⟩ | exact ⟨rfl, fun _ _ => rfl⟩ | exact fun _ _ h => h | (intro _ _ h; cases h; done), ?_⟩; conv => whnf))
end Go.Proofs.Ytjpjiniclibgkaa.Sx
