/- A part of the proof that the law FnExactHonestReach returns true: contracts of the functions that it calls, or the plain facts behind them; each holds for every input that its premises name. -/
import Derived.Test.YtjeedadfhoiedaaGreatA5
import Derived.KernelRfl
import Derived.Test.YtjeedadfhoiedaaGreatProg
import Derived.ArgAppend
import Derived.Maps.Own
import Derived.Maps.OwnSet
namespace Go.Proofs.Ai
open Go.RowKit
abbrev c176 : List CT := [.i .i64, .i .i64, .i .i64]
def d176 : Int × Int × Int := CT.dfltL c176
abbrev k176 : List CC := [⟨.i .i64, 0⟩, ⟨.i .i64, 0⟩, ⟨.i .i64, 0⟩]
abbrev c3 : List CT := [.i .i64]
def d3 : Int := CT.dfltL c3
abbrev k3 : List CC := [⟨.i .i64, 0⟩]
abbrev c36 : List CT := [.l c3]
def d36 : List (Int) := CT.dfltL c36
abbrev k36 : List CC := [⟨.l c3, 3⟩]
abbrev c167 : List CT := [.i .i64, .l c36]
def d167 : Int × List (List (Int)) := CT.dfltL c167
abbrev k167 : List CC := [⟨.i .i64, 0⟩, ⟨.l c36, 36⟩]
abbrev c228 : List CT := [.i .i64, .l c3, .l c3]
def d228 : Int × List (Int) × List (Int) := CT.dfltL c228
abbrev k228 : List CC := [⟨.i .i64, 0⟩, ⟨.l c3, 3⟩, ⟨.l c3, 3⟩]
abbrev c171 : List CT := [.i .i64, .i .i64, .i .i64, .l c228, .i .i64]
def d171 : Int × Int × Int × (List (Int × List (Int) × List (Int))) × Int := CT.dfltL c171
abbrev k171 : List CC := [⟨.i .i64, 0⟩, ⟨.i .i64, 0⟩, ⟨.i .i64, 0⟩, ⟨.l c228, 228⟩, ⟨.i .i64, 0⟩]
abbrev k213 : List CC := [⟨.i .i64, 0⟩, ⟨.i .i64, 0⟩, ⟨.i .i64, 0⟩]
abbrev c110 : List CT := [.i .i64, .l c171]
def d110 : Int × (List (Int × Int × Int × (List (Int × List (Int) × List (Int))) × Int)) := CT.dfltL c110
abbrev k110 : List CC := [⟨.i .i64, 0⟩, ⟨.l c171, 171⟩]
abbrev c207 : List CT := [.i .i64, .i .i64, .i .i64, .i .i64, .l c36]
def d207 : Int × Int × Int × Int × List (List (Int)) := CT.dfltL c207
abbrev k207 : List CC := [⟨.i .i64, 0⟩, ⟨.i .i64, 0⟩, ⟨.i .i64, 0⟩, ⟨.i .i64, 0⟩, ⟨.l c36, 36⟩]
abbrev c114 : List CT := [.i .i64, .i .i64, .l c3, .l c207, .l c167, .i .i64]
def d114 : Int × Int × List (Int) × (List (Int × Int × Int × Int × List (List (Int)))) × (List (Int × List (List (Int)))) × Int := CT.dfltL c114
abbrev k114 : List CC := [⟨.i .i64, 0⟩, ⟨.i .i64, 0⟩, ⟨.l c3, 3⟩, ⟨.l c207, 207⟩, ⟨.l c167, 167⟩, ⟨.i .i64, 0⟩]
abbrev c117 : List CT := [.i .i64, .i .i64, .i .i64, .i .i64, .l c3, .i .i64]
def d117 : Int × Int × Int × Int × List (Int) × Int := CT.dfltL c117
abbrev k117 : List CC := [⟨.i .i64, 0⟩, ⟨.i .i64, 0⟩, ⟨.i .i64, 0⟩, ⟨.i .i64, 0⟩, ⟨.l c3, 3⟩, ⟨.i .i64, 0⟩]
abbrev k188 : List CC := [⟨.i .i64, 0⟩, ⟨.i .i64, 0⟩, ⟨.i .i64, 0⟩]
abbrev k125 : List CC := [⟨.i .i64, 0⟩, ⟨.i .i64, 0⟩, ⟨.i .i64, 0⟩]
abbrev k177 : List CC := [⟨.i .i64, 0⟩, ⟨.l c36, 36⟩]
abbrev k226 : List CC := [⟨.i .i64, 0⟩, ⟨.l c3, 3⟩, ⟨.l c3, 3⟩]
abbrev k181 : List CC := [⟨.i .i64, 0⟩, ⟨.i .i64, 0⟩, ⟨.i .i64, 0⟩, ⟨.l c228, 226⟩, ⟨.i .i64, 0⟩]
abbrev k211 : List CC := [⟨.i .i64, 0⟩, ⟨.i .i64, 0⟩, ⟨.i .i64, 0⟩]
abbrev k132 : List CC := [⟨.i .i64, 0⟩, ⟨.l c171, 181⟩]
abbrev k202 : List CC := [⟨.i .i64, 0⟩, ⟨.i .i64, 0⟩, ⟨.i .i64, 0⟩, ⟨.i .i64, 0⟩, ⟨.l c36, 36⟩]
abbrev k136 : List CC := [⟨.i .i64, 0⟩, ⟨.i .i64, 0⟩, ⟨.l c3, 3⟩, ⟨.l c207, 202⟩, ⟨.l c167, 177⟩, ⟨.i .i64, 0⟩]
abbrev k138 : List CC := [⟨.i .i64, 0⟩, ⟨.i .i64, 0⟩, ⟨.i .i64, 0⟩, ⟨.i .i64, 0⟩, ⟨.l c3, 3⟩, ⟨.i .i64, 0⟩]
abbrev k186 : List CC := [⟨.i .i64, 0⟩, ⟨.i .i64, 0⟩, ⟨.i .i64, 0⟩]
abbrev c4 : List CT := [.b]
def d4 : Bool := CT.dfltL c4
abbrev k4 : List CC := [⟨.b, 0⟩]
abbrev ca176 : List CT := [.any .i64, .any .i64, .any .i64]
def da176 : Unit × Unit × Unit := CT.dfltL ca176
abbrev ca3 : List CT := [.any .i64]
def da3 : Unit := CT.dfltL ca3
abbrev ca36 : List CT := [.l ca3]
def da36 : List (Unit) := CT.dfltL ca36
abbrev ca167 : List CT := [.any .i64, .l ca36]
def da167 : Unit × List (List (Unit)) := CT.dfltL ca167
abbrev ca228 : List CT := [.any .i64, .l ca3, .l ca3]
def da228 : Unit × List (Unit) × List (Unit) := CT.dfltL ca228
abbrev ca171 : List CT := [.any .i64, .any .i64, .any .i64, .l ca228, .any .i64]
def da171 : Unit × Unit × Unit × (List (Unit × List (Unit) × List (Unit))) × Unit := CT.dfltL ca171
abbrev ca110 : List CT := [.any .i64, .l ca171]
def da110 : Unit × (List (Unit × Unit × Unit × (List (Unit × List (Unit) × List (Unit))) × Unit)) := CT.dfltL ca110
abbrev ca207 : List CT := [.any .i64, .any .i64, .any .i64, .any .i64, .l ca36]
def da207 : Unit × Unit × Unit × Unit × List (List (Unit)) := CT.dfltL ca207
abbrev ca114 : List CT := [.any .i64, .any .i64, .l ca3, .l ca207, .l ca167, .any .i64]
def da114 : Unit × Unit × List (Unit) × (List (Unit × Unit × Unit × Unit × List (List (Unit)))) × (List (Unit × List (List (Unit)))) × Unit := CT.dfltL ca114
abbrev ca117 : List CT := [.any .i64, .any .i64, .any .i64, .any .i64, .l ca3, .any .i64]
def da117 : Unit × Unit × Unit × Unit × List (Unit) × Unit := CT.dfltL ca117
def tabL : List (Nat × TI) := [
  (1, .sc (.one)),
  (2, .sc (.i .i64)),
  (3, .sc (.i .i64)),
  (4, .sc (.b)),
  (5, .sc (.i .u8)),
  (6, .sc (.i .u8)),
  (7, .st [(false, [⟨.i .i64, 0⟩]), (false, [⟨.i .i64, 0⟩]), (false, [⟨.b, 0⟩]), (false, [⟨.i .u8, 0⟩])]),
  (8, .st [(false, [⟨.i .i64, 0⟩]), (false, [⟨.i .i64, 0⟩]), (false, [⟨.b, 0⟩]), (false, [⟨.i .u8, 0⟩])]),
  (9, .sc (.s)),
  (10, .sc (.s)),
  (11, .sc (.s)),
  (12, .sc (.i .u64)),
  (13, .st [(false, [⟨.s, 0⟩]), (false, [⟨.i .u64, 0⟩])]),
  (14, .st [(false, [⟨.s, 0⟩]), (false, [⟨.i .u64, 0⟩])]),
  (15, .sc (.one)),
  (16, .sc (.one)),
  (17, .sc (.one)),
  (18, .st [(false, [⟨.one, 0⟩])]),
  (19, .st [(false, [⟨.one, 0⟩])]),
  (21, .sc (.i .i32)),
  (22, .sl 176 true k176 24),
  (23, .st [(false, [⟨.i .i64, 0⟩]), (false, [⟨.l c176, 176⟩])]),
  (24, .st [(false, [⟨.i .i64, 0⟩]), (false, [⟨.l c176, 176⟩])]),
  (25, .sl 167 true k167 32),
  (26, .st [(false, [⟨.i .i64, 0⟩]), (false, [⟨.i .i64, 0⟩]), (false, [⟨.i .i64, 0⟩]), (false, [⟨.i .i64, 0⟩])]),
  (27, .st [(false, [⟨.i .i64, 0⟩]), (false, [⟨.i .i64, 0⟩]), (false, [⟨.i .i64, 0⟩]), (false, [⟨.i .i64, 0⟩])]),
  (28, .sl 171 true k171 56),
  (29, .sl 213 true k213 24),
  (30, .st [(false, [⟨.l c176, 213⟩])]),
  (31, .st [(false, [⟨.l c176, 213⟩])]),
  (32, .st [(false, [⟨.l c167, 167⟩]), (true, [⟨.i .i64, 0⟩, ⟨.i .i64, 0⟩, ⟨.i .i64, 0⟩, ⟨.i .i64, 0⟩]), (false, [⟨.l c171, 171⟩]), (true, [⟨.l c176, 213⟩]), (false, [⟨.i .i64, 0⟩])]),
  (33, .st [(false, [⟨.l c167, 167⟩]), (true, [⟨.i .i64, 0⟩, ⟨.i .i64, 0⟩, ⟨.i .i64, 0⟩, ⟨.i .i64, 0⟩]), (false, [⟨.l c171, 171⟩]), (true, [⟨.l c176, 213⟩]), (false, [⟨.i .i64, 0⟩])]),
  (34, .sl 110 true k110 32),
  (35, .sl 114 true k114 96),
  (36, .sl 3 false k3 8),
  (37, .st [(false, [⟨.l c3, 3⟩])]),
  (38, .st [(false, [⟨.l c3, 3⟩])]),
  (39, .sl 117 true k117 64),
  (40, .sl 188 true k188 24),
  (41, .st [(false, [⟨.l c176, 188⟩])]),
  (42, .st [(false, [⟨.l c176, 188⟩])]),
  (43, .st [(true, [⟨.i .i64, 0⟩, ⟨.l c176, 176⟩]), (true, [⟨.l c167, 167⟩, ⟨.i .i64, 0⟩, ⟨.i .i64, 0⟩, ⟨.i .i64, 0⟩, ⟨.i .i64, 0⟩, ⟨.l c171, 171⟩, ⟨.l c176, 213⟩, ⟨.i .i64, 0⟩]), (false, [⟨.l c110, 110⟩]), (false, [⟨.l c114, 114⟩]), (false, [⟨.l c3, 3⟩]), (true, [⟨.l c3, 3⟩]), (false, [⟨.l c117, 117⟩]), (true, [⟨.l c176, 188⟩]), (false, [⟨.i .i64, 0⟩]), (false, [⟨.i .i64, 0⟩]), (false, [⟨.i .i64, 0⟩])]),
  (44, .st [(true, [⟨.i .i64, 0⟩, ⟨.l c176, 176⟩]), (true, [⟨.l c167, 167⟩, ⟨.i .i64, 0⟩, ⟨.i .i64, 0⟩, ⟨.i .i64, 0⟩, ⟨.i .i64, 0⟩, ⟨.l c171, 171⟩, ⟨.l c176, 213⟩, ⟨.i .i64, 0⟩]), (false, [⟨.l c110, 110⟩]), (false, [⟨.l c114, 114⟩]), (false, [⟨.l c3, 3⟩]), (true, [⟨.l c3, 3⟩]), (false, [⟨.l c117, 117⟩]), (true, [⟨.l c176, 188⟩]), (false, [⟨.i .i64, 0⟩]), (false, [⟨.i .i64, 0⟩]), (false, [⟨.i .i64, 0⟩])]),
  (45, .sc (.one)),
  (46, .sc (.one)),
  (47, .sl 125 true k125 24),
  (48, .st [(false, [⟨.i .i64, 0⟩]), (false, [⟨.l c176, 125⟩])]),
  (49, .st [(false, [⟨.i .i64, 0⟩]), (false, [⟨.l c176, 125⟩])]),
  (50, .sl 177 true k177 32),
  (51, .st [(false, [⟨.i .i64, 0⟩]), (false, [⟨.i .i64, 0⟩]), (false, [⟨.i .i64, 0⟩]), (false, [⟨.i .i64, 0⟩])]),
  (52, .sl 181 true k181 56),
  (53, .sl 211 true k211 24),
  (54, .st [(false, [⟨.l c176, 211⟩])]),
  (55, .st [(false, [⟨.l c176, 211⟩])]),
  (56, .st [(false, [⟨.l c167, 177⟩]), (true, [⟨.i .i64, 0⟩, ⟨.i .i64, 0⟩, ⟨.i .i64, 0⟩, ⟨.i .i64, 0⟩]), (false, [⟨.l c171, 181⟩]), (true, [⟨.l c176, 211⟩]), (false, [⟨.i .i64, 0⟩])]),
  (57, .st [(false, [⟨.l c167, 177⟩]), (true, [⟨.i .i64, 0⟩, ⟨.i .i64, 0⟩, ⟨.i .i64, 0⟩, ⟨.i .i64, 0⟩]), (false, [⟨.l c171, 181⟩]), (true, [⟨.l c176, 211⟩]), (false, [⟨.i .i64, 0⟩])]),
  (58, .sl 132 true k132 32),
  (59, .sl 136 true k136 96),
  (60, .st [(false, [⟨.l c3, 3⟩])]),
  (61, .sl 138 true k138 64),
  (62, .sl 186 true k186 24),
  (63, .st [(false, [⟨.l c176, 186⟩])]),
  (64, .st [(false, [⟨.l c176, 186⟩])]),
  (65, .st [(true, [⟨.i .i64, 0⟩, ⟨.l c176, 125⟩]), (true, [⟨.l c167, 177⟩, ⟨.i .i64, 0⟩, ⟨.i .i64, 0⟩, ⟨.i .i64, 0⟩, ⟨.i .i64, 0⟩, ⟨.l c171, 181⟩, ⟨.l c176, 211⟩, ⟨.i .i64, 0⟩]), (false, [⟨.l c110, 132⟩]), (false, [⟨.l c114, 136⟩]), (false, [⟨.l c3, 3⟩]), (true, [⟨.l c3, 3⟩]), (false, [⟨.l c117, 138⟩]), (true, [⟨.l c176, 186⟩]), (false, [⟨.i .i64, 0⟩]), (false, [⟨.i .i64, 0⟩]), (false, [⟨.i .i64, 0⟩])]),
  (66, .st [(true, [⟨.i .i64, 0⟩, ⟨.l c176, 125⟩]), (true, [⟨.l c167, 177⟩, ⟨.i .i64, 0⟩, ⟨.i .i64, 0⟩, ⟨.i .i64, 0⟩, ⟨.i .i64, 0⟩, ⟨.l c171, 181⟩, ⟨.l c176, 211⟩, ⟨.i .i64, 0⟩]), (false, [⟨.l c110, 132⟩]), (false, [⟨.l c114, 136⟩]), (false, [⟨.l c3, 3⟩]), (true, [⟨.l c3, 3⟩]), (false, [⟨.l c117, 138⟩]), (true, [⟨.l c176, 186⟩]), (false, [⟨.i .i64, 0⟩]), (false, [⟨.i .i64, 0⟩]), (false, [⟨.i .i64, 0⟩])]),
  (67, .sc (.one)),
  (68, .sc (.one)),
  (69, .sc (.one)),
  (70, .sc (.one)),
  (71, .sc (.one)),
  (72, .sc (.one)),
  (73, .sc (.one)),
  (74, .sc (.one)),
  (75, .sc (.one)),
  (76, .sc (.one)),
  (77, .sc (.one)),
  (78, .sc (.one)),
  (79, .sc (.one)),
  (80, .sc (.one)),
  (81, .sc (.one)),
  (82, .sc (.one)),
  (83, .sc (.one)),
  (84, .sc (.one)),
  (85, .sc (.one)),
  (86, .sc (.one)),
  (87, .sc (.one)),
  (88, .sc (.one)),
  (89, .sc (.one)),
  (90, .sc (.one)),
  (91, .sc (.one)),
  (92, .sc (.one)),
  (93, .sc (.one)),
  (94, .sc (.one)),
  (95, .sc (.one)),
  (96, .sc (.one)),
  (97, .sc (.one)),
  (98, .sc (.one)),
  (99, .sc (.one)),
  (100, .sc (.one)),
  (101, .sc (.one)),
  (102, .sc (.one)),
  (103, .sc (.one)),
  (104, .sc (.one)),
  (105, .sc (.one)),
  (106, .sc (.one)),
  (107, .sc (.one)),
  (108, .sc (.one)),
  (109, .st [(false, [⟨.i .i64, 0⟩]), (false, [⟨.l c171, 171⟩])]),
  (110, .st [(false, [⟨.i .i64, 0⟩]), (false, [⟨.l c171, 171⟩])]),
  (111, .sc (.one)),
  (112, .sl 207 true k207 56),
  (113, .st [(false, [⟨.i .i64, 0⟩]), (false, [⟨.i .i64, 0⟩]), (false, [⟨.l c3, 3⟩]), (false, [⟨.l c207, 207⟩]), (false, [⟨.l c167, 167⟩]), (false, [⟨.i .i64, 0⟩])]),
  (114, .st [(false, [⟨.i .i64, 0⟩]), (false, [⟨.i .i64, 0⟩]), (false, [⟨.l c3, 3⟩]), (false, [⟨.l c207, 207⟩]), (false, [⟨.l c167, 167⟩]), (false, [⟨.i .i64, 0⟩])]),
  (115, .sc (.one)),
  (116, .st [(false, [⟨.i .i64, 0⟩]), (false, [⟨.i .i64, 0⟩]), (false, [⟨.i .i64, 0⟩]), (false, [⟨.i .i64, 0⟩]), (false, [⟨.l c3, 3⟩]), (false, [⟨.i .i64, 0⟩])]),
  (117, .st [(false, [⟨.i .i64, 0⟩]), (false, [⟨.i .i64, 0⟩]), (false, [⟨.i .i64, 0⟩]), (false, [⟨.i .i64, 0⟩]), (false, [⟨.l c3, 3⟩]), (false, [⟨.i .i64, 0⟩])]),
  (118, .sc (.one)),
  (119, .sc (.one)),
  (120, .sc (.one)),
  (121, .sl 4 false k4 1),
  (122, .sc (.one)),
  (123, .sc (.one)),
  (124, .st [(false, [⟨.i .i64, 0⟩]), (false, [⟨.i .i64, 0⟩]), (false, [⟨.i .i64, 0⟩])]),
  (125, .st [(false, [⟨.i .i64, 0⟩]), (false, [⟨.i .i64, 0⟩]), (false, [⟨.i .i64, 0⟩])]),
  (126, .sc (.one)),
  (127, .sc (.one)),
  (128, .sc (.one)),
  (129, .sc (.one)),
  (130, .sc (.one)),
  (131, .st [(false, [⟨.i .i64, 0⟩]), (false, [⟨.l c171, 181⟩])]),
  (132, .st [(false, [⟨.i .i64, 0⟩]), (false, [⟨.l c171, 181⟩])]),
  (133, .sc (.one)),
  (134, .sl 202 true k202 56),
  (135, .st [(false, [⟨.i .i64, 0⟩]), (false, [⟨.i .i64, 0⟩]), (false, [⟨.l c3, 3⟩]), (false, [⟨.l c207, 202⟩]), (false, [⟨.l c167, 177⟩]), (false, [⟨.i .i64, 0⟩])]),
  (136, .st [(false, [⟨.i .i64, 0⟩]), (false, [⟨.i .i64, 0⟩]), (false, [⟨.l c3, 3⟩]), (false, [⟨.l c207, 202⟩]), (false, [⟨.l c167, 177⟩]), (false, [⟨.i .i64, 0⟩])]),
  (137, .sc (.one)),
  (138, .st [(false, [⟨.i .i64, 0⟩]), (false, [⟨.i .i64, 0⟩]), (false, [⟨.i .i64, 0⟩]), (false, [⟨.i .i64, 0⟩]), (false, [⟨.l c3, 3⟩]), (false, [⟨.i .i64, 0⟩])]),
  (139, .sc (.one)),
  (140, .sc (.one)),
  (141, .sc (.one)),
  (143, .sc (.one)),
  (144, .sc (.one)),
  (145, .sc (.one)),
  (146, .sc (.one)),
  (147, .sc (.one)),
  (148, .sc (.one)),
  (149, .sc (.one)),
  (150, .sc (.one)),
  (151, .sc (.one)),
  (152, .sc (.one)),
  (153, .sc (.one)),
  (154, .sc (.one)),
  (155, .sc (.one)),
  (156, .sc (.one)),
  (157, .sc (.one)),
  (158, .sc (.one)),
  (159, .sc (.one)),
  (160, .sc (.one)),
  (161, .sc (.one)),
  (162, .sc (.one)),
  (163, .sc (.one)),
  (164, .sc (.one)),
  (165, .sl 36 false k36 24),
  (166, .st [(false, [⟨.i .i64, 0⟩]), (false, [⟨.l c36, 36⟩])]),
  (167, .st [(false, [⟨.i .i64, 0⟩]), (false, [⟨.l c36, 36⟩])]),
  (168, .sc (.one)),
  (169, .sl 228 true k228 56),
  (170, .st [(false, [⟨.i .i64, 0⟩]), (false, [⟨.i .i64, 0⟩]), (false, [⟨.i .i64, 0⟩]), (false, [⟨.l c228, 228⟩]), (false, [⟨.i .i64, 0⟩])]),
  (171, .st [(false, [⟨.i .i64, 0⟩]), (false, [⟨.i .i64, 0⟩]), (false, [⟨.i .i64, 0⟩]), (false, [⟨.l c228, 228⟩]), (false, [⟨.i .i64, 0⟩])]),
  (172, .sc (.one)),
  (173, .sc (.one)),
  (174, .sc (.one)),
  (175, .sc (.one)),
  (176, .st [(false, [⟨.i .i64, 0⟩]), (false, [⟨.i .i64, 0⟩]), (false, [⟨.i .i64, 0⟩])]),
  (177, .st [(false, [⟨.i .i64, 0⟩]), (false, [⟨.l c36, 36⟩])]),
  (178, .sc (.one)),
  (179, .sl 226 true k226 56),
  (180, .st [(false, [⟨.i .i64, 0⟩]), (false, [⟨.i .i64, 0⟩]), (false, [⟨.i .i64, 0⟩]), (false, [⟨.l c228, 226⟩]), (false, [⟨.i .i64, 0⟩])]),
  (181, .st [(false, [⟨.i .i64, 0⟩]), (false, [⟨.i .i64, 0⟩]), (false, [⟨.i .i64, 0⟩]), (false, [⟨.l c228, 226⟩]), (false, [⟨.i .i64, 0⟩])]),
  (182, .sc (.one)),
  (183, .sc (.one)),
  (184, .sc (.one)),
  (185, .st [(false, [⟨.i .i64, 0⟩]), (false, [⟨.i .i64, 0⟩]), (false, [⟨.i .i64, 0⟩])]),
  (186, .st [(false, [⟨.i .i64, 0⟩]), (false, [⟨.i .i64, 0⟩]), (false, [⟨.i .i64, 0⟩])]),
  (187, .sc (.one)),
  (188, .st [(false, [⟨.i .i64, 0⟩]), (false, [⟨.i .i64, 0⟩]), (false, [⟨.i .i64, 0⟩])]),
  (189, .sc (.one)),
  (190, .sc (.one)),
  (191, .sc (.one)),
  (192, .sc (.one)),
  (193, .sc (.one)),
  (194, .sc (.one)),
  (195, .sc (.one)),
  (196, .sc (.one)),
  (197, .sc (.one)),
  (198, .sc (.one)),
  (199, .st [(false, [⟨.i .i64, 0⟩]), (false, [⟨.l c36, 36⟩])]),
  (200, .st [(false, [⟨.i .i64, 0⟩]), (false, [⟨.l c36, 36⟩])]),
  (201, .st [(false, [⟨.i .i64, 0⟩]), (false, [⟨.i .i64, 0⟩]), (false, [⟨.i .i64, 0⟩]), (true, [⟨.i .i64, 0⟩, ⟨.l c36, 36⟩])]),
  (202, .st [(false, [⟨.i .i64, 0⟩]), (false, [⟨.i .i64, 0⟩]), (false, [⟨.i .i64, 0⟩]), (true, [⟨.i .i64, 0⟩, ⟨.l c36, 36⟩])]),
  (203, .sc (.one)),
  (204, .sc (.one)),
  (205, .st [(false, [⟨.i .i64, 0⟩]), (false, [⟨.l c36, 36⟩])]),
  (206, .st [(false, [⟨.i .i64, 0⟩]), (false, [⟨.i .i64, 0⟩]), (false, [⟨.i .i64, 0⟩]), (true, [⟨.i .i64, 0⟩, ⟨.l c36, 36⟩])]),
  (207, .st [(false, [⟨.i .i64, 0⟩]), (false, [⟨.i .i64, 0⟩]), (false, [⟨.i .i64, 0⟩]), (true, [⟨.i .i64, 0⟩, ⟨.l c36, 36⟩])]),
  (208, .sc (.one)),
  (209, .sc (.one)),
  (210, .st [(false, [⟨.i .i64, 0⟩]), (false, [⟨.i .i64, 0⟩]), (false, [⟨.i .i64, 0⟩])]),
  (211, .st [(false, [⟨.i .i64, 0⟩]), (false, [⟨.i .i64, 0⟩]), (false, [⟨.i .i64, 0⟩])]),
  (212, .sc (.one)),
  (213, .st [(false, [⟨.i .i64, 0⟩]), (false, [⟨.i .i64, 0⟩]), (false, [⟨.i .i64, 0⟩])]),
  (214, .sc (.one)),
  (215, .sc (.one)),
  (216, .sc (.one)),
  (217, .sc (.one)),
  (218, .sc (.one)),
  (219, .sc (.one)),
  (220, .sc (.i .u64)),
  (221, .sc (.one)),
  (222, .sc (.one)),
  (223, .sc (.one)),
  (224, .sc (.one)),
  (225, .st [(false, [⟨.i .i64, 0⟩]), (false, [⟨.l c3, 3⟩]), (false, [⟨.l c3, 3⟩])]),
  (226, .st [(false, [⟨.i .i64, 0⟩]), (false, [⟨.l c3, 3⟩]), (false, [⟨.l c3, 3⟩])]),
  (227, .sc (.one)),
  (228, .st [(false, [⟨.i .i64, 0⟩]), (false, [⟨.l c3, 3⟩]), (false, [⟨.l c3, 3⟩])]),
  (229, .sc (.one)),
  (230, .sc (.one)),
  (231, .sc (.one)),
  (232, .sc (.one)),
  (233, .sc (.i .i64)),
  (235, .sc (.one)),
  (236, .sc (.one)),
  (237, .sc (.one)),
  (238, .sc (.one)),
  (240, .sc (.one)),
  (241, .sc (.one)),
  (242, .sc (.i .u32)),
  (243, .sc (.one)),
  (244, .sc (.i .u64)),
  (245, .sc (.one)),
  (246, .sc (.one)),
  (247, .sc (.i .u64)),
  (248, .sc (.one)),
  (249, .sc (.one)),
  (250, .sc (.one)),
  (251, .sc (.one)),
  (252, .sc (.one)),
  (253, .sc (.one)),
  (255, .sc (.one)),
  (256, .sc (.one)),
  (257, .st [(false, [⟨.one, 0⟩]), (false, [⟨.one, 0⟩]), (false, [⟨.one, 0⟩]), (false, [⟨.s, 0⟩])]),
  (258, .st [(false, [⟨.one, 0⟩]), (false, [⟨.one, 0⟩]), (false, [⟨.one, 0⟩]), (false, [⟨.s, 0⟩])]),
  (262, .sc (.one)),
  (263, .sc (.i .u8)),
  (264, .sc (.i .u8)),
  (265, .sc (.one)),
  (266, .sc (.one)),
  (267, .sc (.i .i32)),
  (268, .sc (.i .i32)),
  (269, .st [(false, [⟨.i .u64, 0⟩]), (false, [⟨.i .u64, 0⟩]), (false, [⟨.i .u32, 0⟩]), (false, [⟨.i .u8, 0⟩]), (false, [⟨.i .u8, 0⟩]), (false, [⟨.i .u8, 0⟩]), (false, [⟨.i .u8, 0⟩]), (false, [⟨.one, 0⟩]), (false, [⟨.one, 0⟩]), (false, [⟨.i .i32, 0⟩]), (false, [⟨.i .i32, 0⟩])]),
  (270, .st [(false, [⟨.i .u64, 0⟩]), (false, [⟨.i .u64, 0⟩]), (false, [⟨.i .u32, 0⟩]), (false, [⟨.i .u8, 0⟩]), (false, [⟨.i .u8, 0⟩]), (false, [⟨.i .u8, 0⟩]), (false, [⟨.i .u8, 0⟩]), (false, [⟨.one, 0⟩]), (false, [⟨.one, 0⟩]), (false, [⟨.i .i32, 0⟩]), (false, [⟨.i .i32, 0⟩])]),
  (271, .sc (.one)),
  (272, .sc (.one)),
  (273, .sc (.one)),
  (274, .sc (.one)),
  (275, .sc (.one)),
  (276, .sc (.one)),
  (277, .sc (.one)),
  (278, .sc (.one)),
  (279, .sc (.one)),
  (280, .sc (.one))]
def tab : Nat → TI := tabOf tabL
def tabE : Nat → TI := tabOf ((0, .pt) :: tabL)
theorem tab_ok : ∀ t, TIOk Tryz.prog t (tab t) := tabOf_ok (by kernel_rfl)
theorem tabE_ok : ∀ t, TIOk Tryz.prog t (tabE t) := tabOf_ok (by kernel_rfl)
theorem mixed : Tryz.prog.follows .mixedOrders = true := by kernel_rfl
end Go.Proofs.Ai

set_option linter.unusedVariables false
namespace Go.Proofs.Ai
open Go.RowKit Go.Maps

/-! a queue of integers, in memory of one's own -/
def QOwn (w : World) (base : Nat) (v : Value) (xs : List Int) : Prop :=
  ∃ g off cap cur, v = .slice (some ⟨g, off, none⟩) xs.length cap ∧ base ≤ g ∧ w.heap[g]? = some (.cells cur 3 (0, 0)) ∧ xs.length ≤ cap ∧ cap ≤ maxLen ∧ off + cap ≤ cur.size ∧ ∀ i x, xs[i]? = some x → cur[off + i]? = some (.int .i64 x)
theorem QOwn.kept {w w' : World} {base : Nat} {v : Value} {xs : List Int} (h : QOwn w base v xs) {B : Nat} {o : Obj} {row : Option Nat} (hg : w.grownBy w' row) (hne : ∀ g, row = some g → ∀ cur, w.heap[g]? ≠ some (.cells cur 3 (0, 0))) : QOwn w' base v xs := by
  obtain ⟨g, off, cap, cur, rfl, h1, h2, h3⟩ := h
  refine ⟨g, off, cap, cur, rfl, h1, ?_, h3⟩
  rw [hg.block g (Array.getElem?_eq_some_iff.1 h2).1 (fun e => hne g e.symm cur h2)]
  exact h2
theorem QOwn.cell {w : World} {base : Nat} {v : Value} {xs : List Int} (h : QOwn w base v xs) : ∃ g off cap, v = .slice (some ⟨g, off, none⟩) xs.length cap ∧ base ≤ g ∧ g < w.heap.size ∧ xs.length ≤ cap ∧ cap ≤ maxLen ∧ (∃ cur, w.heap[g]? = some (.cells cur 3 (0, 0))) ∧ (∀ i x, xs[i]? = some x → w.cell? ⟨g, off + i, none⟩ = some (.int .i64 x)) := by
  obtain ⟨g, off, cap, cur, rfl, h1, h2, h3, h4, h5, h6⟩ := h
  refine ⟨g, off, cap, rfl, h1, (Array.getElem?_eq_some_iff.1 h2).1, h3, h4, ⟨cur, h2⟩, fun i x hi => ?_⟩
  rw [cell_at h2]; exact h6 i x hi
theorem QOwn.tail {w : World} {base : Nat} {g off n cap : Nat} {x : Int} {xs : List Int} (h : QOwn w base (.slice (some ⟨g, off, none⟩) n cap) (x :: xs)) : QOwn w base (.slice (some ⟨g, off + 1, none⟩) (n - 1) (cap - 1)) xs := by
  obtain ⟨g', off', cap', cur, e, h1, h2, h3, h4, h5, h6⟩ := h
  simp only [Value.slice.injEq, Option.some.injEq, Addr.mk.injEq, and_true] at e
  obtain ⟨⟨rfl, rfl⟩, rfl, rfl⟩ := e
  simp only [List.length_cons] at h3
  refine ⟨g, off + 1, cap - 1, cur, by simp, h1, h2, by omega, by omega, by omega, fun i y hi => ?_⟩
  have := h6 (i + 1) y (by simpa using hi)
  rwa [show off + 1 + i = off + (i + 1) by omega]
theorem QOwn.tail' {w : World} {base : Nat} {g off n cap : Nat} {x : Int} {xs : List Int} (h : QOwn w base (.slice (some ⟨g, off, none⟩) n cap) (x :: xs)) (hc : cap = 1) : QOwn w base (.slice (some ⟨g, off, none⟩) (n - 1) 0) xs := by
  obtain ⟨g', off', cap', cur, e, h1, h2, h3, h4, h5, h6⟩ := h
  simp only [Value.slice.injEq, Option.some.injEq, Addr.mk.injEq, and_true] at e
  obtain ⟨⟨rfl, rfl⟩, rfl, rfl⟩ := e
  simp only [List.length_cons] at h3
  have hx : xs = [] := List.eq_nil_of_length_eq_zero (by omega)
  subst hx
  exact ⟨g, off, 0, cur, by simp, h1, h2, by simp, by omega, by omega, fun i y hi => by simp at hi⟩
theorem heap_setCell_at {w : World} {g j : Nat} {cur : Array Value} {T : TypeId} {u : Value} (h : w.heap[g]? = some (.cells cur T (0, 0))) : (w.setCell ⟨g, j, none⟩ u).heap[g]? = some (.cells (cur.setIfInBounds j u) T (0, 0)) := by
  simp [World.setCell, Array.getElem?_modify, h]
theorem info3 : ∃ i, Tryz.prog.info? 3 = some i ∧ i.zero = some (.int .i64 0) ∧ i.size = 1 ∧ i.bytes = 8 := by
  have h : (Tryz.prog.info? 3).map (fun i => (i.zero, i.size, i.bytes)) = some (some (.int .i64 0), 1, 8) := by kernel_rfl
  cases hi : Tryz.prog.info? 3 with
  | none => rw [hi] at h; simp at h
  | some i => rw [hi] at h; simp at h; exact ⟨i, rfl, h.1, h.2.1, h.2.2⟩
theorem QOwn.append {w : World} {base : Nat} {v : Value} {xs : List Int} (h : QOwn w base v xs) (hb : base ≤ w.heap.size) {x : Int} {nb no : Nat} (hx : w.cell? ⟨nb, no, none⟩ = some (.int .i64 x)) (hl : xs.length < 1048576) :
    ∃ v' w', (Builtin.append_ #[36, 36] 36 #[v, .slice (some ⟨nb, no, none⟩) 1 1]).run Tryz.prog w = .ok v' w' ∧ QOwn w' base v' (xs ++ [x]) ∧ w.grownBy w' v.ownBlock := by
  obtain ⟨g, off, cap, cur, rfl, h1, h2, h3, h4, h5, h6⟩ := h
  obtain ⟨i, i1, i2, i3, i4⟩ := info3
  have hu : Tryz.prog.underlying 36 = some (.slice 3) := Tryz.underlying36
  have hnews : ∀ j u, ([.int .i64 x] : List Value)[j]? = some u → w.cell? ((⟨nb, no, none⟩ : Addr).add j) = some u := by
    intro j u hj
    cases j with
    | zero => simp at hj; subst hj; rw [Addr.add_lit]; exact hx
    | succ j => simp at hj
  by_cases hroom : xs.length + 1 ≤ cap
  · have hr := run_append_room_cells (P := Tryz.prog) (w := w) 36 36 3 i hu i1 g off xs.length cap ⟨nb, no, none⟩ 1 1 [.int .i64 x] (by simp [i3]) hnews (by simp [Value.oneCell']) hroom
      (fun j hj => by
        simp only [List.length_singleton] at hj
        obtain rfl : j = 0 := by omega
        rw [cell_at h2, i3]
        rw [Array.getElem?_eq_getElem (by omega)]; rfl)
      (fun j hj => by
        simp only [List.length_singleton] at hj
        obtain rfl : j = 0 := by omega
        simp [World.frozen?, h2])
    refine ⟨_, _, hr, ?_, ?_⟩
    · refine ⟨g, off, cap, cur.setIfInBounds (off + xs.length) (.int .i64 x), by simp, h1, ?_, by simpa using hroom, h4, by simpa using h5, fun j y hj => ?_⟩
      · simp only [i3, World.setCells, Nat.mul_one]
        exact heap_setCell_at h2
      · by_cases hjl : j < xs.length
        · rw [List.getElem?_append_left hjl] at hj
          rw [Array.getElem?_setIfInBounds, if_neg (by omega)]
          exact h6 j y hj
        · have hjx : j < (xs ++ [x]).length := (List.getElem?_eq_some_iff.1 hj).1
          simp only [List.length_append, List.length_singleton] at hjx
          obtain rfl : j = xs.length := by omega
          simp at hj
          subst hj
          rw [Array.getElem?_setIfInBounds, if_pos rfl, if_pos (by omega)]
    · simp only [World.setCells]
      exact ⟨rfl, rfl, rfl, by simp [World.setCell], fun k _ hk => Below.heap_setCell _ _ _ _ (fun e => hk (by simp [Value.ownBlock, e]))⟩
  · have hr := run_append_grow (P := Tryz.prog) w 36 36 3 i (.int .i64 0) hu i1 i2 ⟨g, off, none⟩ xs.length cap (xs.map (Value.int .i64)) (by simp [i3]) (fun j u hj => by
        rw [Addr.add_lit]
        rw [cell_at h2]
        rw [List.getElem?_map] at hj
        cases hxj : xs[j]? with
        | none => rw [hxj] at hj; simp at hj
        | some y => rw [hxj] at hj; simp at hj; subst hj; exact h6 j y hxj)
      ⟨nb, no, none⟩ 1 1 [.int .i64 x] (by simp [i3]) hnews (by omega) (by omega) (growslice_fits (by omega) (by rw [i4]; omega))
    have hge := grownCap_ge w (xs.length + 1) cap 3
    refine ⟨_, _, hr, ?_, ?_⟩
    · refine ⟨w.heap.size, 0, _, _, by simp; rfl, hb, heap_alloc_new w.drew _, by simpa using hge, grownCap_le_maxLen w _ _ _ (by simp only [maxLen]; omega), ?_, fun j y hj => ?_⟩
      · have hz : (Value.int IntKind.i64 0).cells.size = 1 := rfl
        simp [Builtin.zeroCells, hz]; omega
      · have hjx : j < (xs ++ [x]).length := (List.getElem?_eq_some_iff.1 hj).1
        rw [Nat.zero_add, Array.getElem?_append, if_pos (by simpa using hjx)]
        have : (List.map (Value.int IntKind.i64) xs).toArray ++ [Value.int IntKind.i64 x].toArray = ((xs ++ [x]).map (Value.int .i64)).toArray := by simp
        rw [this, List.getElem?_toArray, List.getElem?_map, hj]; rfl
    · exact ⟨rfl, rfl, rfl, by simp, fun k hk _ => heap_alloc_old w.drew _ hk⟩
end Go.Proofs.Ai

set_option linter.unusedVariables false
set_option linter.unusedSimpArgs false
namespace Go.Proofs.Ai
open Go.RowKit
noncomputable section
def inB (x a b : Int) : Bool := decide (a ≤ x) && decide (x ≤ b)
def hon (l : List Int) (a : Int) : Bool := decide (a < 0) || decide (a ≥ (l.length : Int)) || (l.getD a.toNat 0 == 0)
def lessE (a b : Int × Int × Int) : Bool := decide (a.1 < b.1) || (a.1 == b.1 && decide (a.2.1 < b.2.1))
def e56 : FE := ⟨[(false, [.i .i64]), (false, [.i .i64]), (false, [.i .i64])], [(false, [.b])], true, false, fun x => some (inB x.1 x.2.1 x.2.2)⟩
def ft56 : Nat → Option FE := ftOf []
def hint56 : Nat → Hint := fun _ => {}
def ord56 : Nat → List Nat := fun _ => []
theorem en56 (n : Nat) (a0 : Int) (a1 : Int) (a2 : Int) : runF tab ft56 hint56 ord56 Tryz.f56 [(false, [.i .i64]), (false, [.i .i64]), (false, [.i .i64])] [(false, [.b])] true n (a0, a1, a2) =
  (bif (decide (a0 ≥ a1)) then
  (some (decide (a0 ≤ a2)))
  else (some false) : Option (Bool)) := by kernel_rfl
theorem r56 : ∀ x y, okP e56.ps x → e56.φ x = some y → ∃ n, runF tab ft56 hint56 ord56 Tryz.f56 e56.ps e56.rs e56.fr n x = some y := by
  rintro ⟨(x : Int), (a : Int), (b : Int)⟩ y ok h
  obtain rfl : inB x a b = y := Option.some.inj h
  refine ⟨0, (en56 0 x a b).trans ?_⟩
  unfold inB
  by_cases h : a ≤ x <;> simp [h] <;> rfl
theorem s56 : Sat Tryz.prog 56 e56 := sat_of_run Tryz.func56 (c := bodyOf Tryz.f56) (by kernel_rfl) (ne_of_dec (by kernel_rfl)) mixed tab_ok (by kernel_rfl) ftOf_nil (by kernel_rfl) (fun h => (Bool.false_ne_true h).elim) r56
def e73 : FE := ⟨[(false, [.i .i64]), (false, [.i .i64]), (false, [.i .i64])], [(false, [.b])], true, false, fun x => some (inB x.1 x.2.1 x.2.2)⟩
def ft73 : Nat → Option FE := ftOf []
def hint73 : Nat → Hint := fun _ => {}
def ord73 : Nat → List Nat := fun _ => []
theorem en73 (n : Nat) (a0 : Int) (a1 : Int) (a2 : Int) : runF tab ft73 hint73 ord73 Tryz.f73 [(false, [.i .i64]), (false, [.i .i64]), (false, [.i .i64])] [(false, [.b])] true n (a0, a1, a2) =
  (bif (decide (a1 ≤ a0)) then
  (some (decide (a0 ≤ a2)))
  else (some false) : Option (Bool)) := by kernel_rfl
theorem r73 : ∀ x y, okP e73.ps x → e73.φ x = some y → ∃ n, runF tab ft73 hint73 ord73 Tryz.f73 e73.ps e73.rs e73.fr n x = some y := by
  rintro ⟨(x : Int), (a : Int), (b : Int)⟩ y ok h
  obtain rfl : inB x a b = y := Option.some.inj h
  refine ⟨0, (en73 0 x a b).trans ?_⟩
  unfold inB
  by_cases h : a ≤ x <;> simp [h] <;> rfl
theorem s73 : Sat Tryz.prog 73 e73 := sat_of_run Tryz.func73 (c := bodyOf Tryz.f73) (by kernel_rfl) (ne_of_dec (by kernel_rfl)) mixed tab_ok (by kernel_rfl) ftOf_nil (by kernel_rfl) (fun h => (Bool.false_ne_true h).elim) r73
def e58 : FE := ⟨[(false, [.l c3]), (false, [.i .i64])], [(false, [.b])], true, false, fun x => some (hon x.1 x.2)⟩
def ft58 : Nat → Option FE := ftOf []
def hint58 : Nat → Hint := fun _ => {}
def ord58 : Nat → List Nat := fun _ => []
theorem en58 (n : Nat) (a0 : List (Int)) (a1 : Int) : runF tab ft58 hint58 ord58 Tryz.f58 [(false, [.l c3]), (false, [.i .i64])] [(false, [.b])] true n (a0, a1) =
  (bif (decide (a1 < 0)) then
  (some true)
  else (bif (decide (a1 ≥ (a0.length : Int))) then
    (some true)
    else (bif decide (0 ≤ a1) && decide (a1 < (a0.length : Int)) then
      (some ((a0.getD a1.toNat d3) == 0))
      else (none))) : Option (Bool)) := by kernel_rfl
theorem r58 : ∀ x y, okP e58.ps x → e58.φ x = some y → ∃ n, runF tab ft58 hint58 ord58 Tryz.f58 e58.ps e58.rs e58.fr n x = some y := by
  rintro ⟨(l : List Int), (a : Int)⟩ y ok h
  obtain rfl : hon l a = y := Option.some.inj h
  refine ⟨0, (en58 0 l a).trans ?_⟩
  unfold hon
  cases h1 : decide (a < 0)
  · cases h2 : decide (a ≥ (l.length : Int))
    · refine bif_false rfl (bif_false rfl (bif_true (in2 ?_ ?_) rfl))
      · have := of_decide_eq_false h1; omega
      · have := of_decide_eq_false h2; omega
    · rfl
  · rfl
theorem s58 : Sat Tryz.prog 58 e58 := sat_of_run Tryz.func58 (c := bodyOf Tryz.f58) (by kernel_rfl) (ne_of_dec (by kernel_rfl)) mixed tab_ok (by kernel_rfl) ftOf_nil (by kernel_rfl) (fun h => (Bool.false_ne_true h).elim) r58
def e96 : FE := ⟨[(true, [.i .i64, .i .i64, .i .i64]), (true, [.i .i64, .i .i64, .i .i64])], [(false, [.b])], true, false, fun x => some (lessE x.1 x.2)⟩
def ft96 : Nat → Option FE := ftOf []
def hint96 : Nat → Hint := fun _ => {}
def ord96 : Nat → List Nat := fun _ => []
theorem en96 (n : Nat) (a0 : Int × Int × Int) (a1 : Int × Int × Int) : runF tab ft96 hint96 ord96 Tryz.f96 [(true, [.i .i64, .i .i64, .i .i64]), (true, [.i .i64, .i .i64, .i .i64])] [(false, [.b])] true n (a0, a1) =
  (bif (decide (a0.1 < a1.1)) then
  (some true)
  else (bif (a0.1 == a1.1) then
    (some (decide (a0.2.1 < a1.2.1)))
    else (some false)) : Option (Bool)) := by kernel_rfl
theorem r96 : ∀ x y, okP e96.ps x → e96.φ x = some y → ∃ n, runF tab ft96 hint96 ord96 Tryz.f96 e96.ps e96.rs e96.fr n x = some y := by
  rintro ⟨(a : Int × Int × Int), (b : Int × Int × Int)⟩ y ok h
  obtain rfl : lessE a b = y := Option.some.inj h
  refine ⟨0, (en96 0 a b).trans ?_⟩
  unfold lessE
  cases h1 : decide (a.1 < b.1) <;> cases h2 : (a.1 == b.1) <;> rfl
theorem s96 : Sat Tryz.prog 96 e96 := sat_of_run Tryz.func96 (c := bodyOf Tryz.f96) (by kernel_rfl) (ne_of_dec (by kernel_rfl)) mixed tab_ok (by kernel_rfl) ftOf_nil (by kernel_rfl) (fun h => (Bool.false_ne_true h).elim) r96
def keepH (b : List Int) (e : Int × Int × Int) : Bool := hon b e.1 && hon b e.2.1
def cutH (g : Int × List (Int × Int × Int)) (b : List Int) : Int × List (Int × Int × Int) := (g.1, g.2.filter (keepH b))
def pcut (x : (Int × List (Int × Int × Int)) × List Int) : Option (Int × List (Int × Int × Int)) := bif decide (x.1.2.length ≤ 1048576) then some (cutH x.1 x.2) else none
theorem pcut_some {x : (Int × List (Int × Int × Int)) × List Int} {y : Int × List (Int × Int × Int)} (h : pcut x = some y) : x.1.2.length ≤ 1048576 ∧ y = cutH x.1 x.2 := by
  unfold pcut at h
  cases hd : decide (x.1.2.length ≤ 1048576) with
  | false => rw [hd] at h; cases h
  | true => rw [hd] at h; exact ⟨of_decide_eq_true hd, (Option.some.inj h).symm⟩

/-! loops over a list by an index -/
theorem at_i {α : Type} {xs : List α} (d : α) {i : Nat} (h : i < xs.length) (hl : xs.length ≤ maxLen) :
    decide ((i : Int) < (xs.length : Int)) = true ∧ decide (0 ≤ (i : Int)) = true ∧ xs.getD (i : Int).toNat d = xs[i] ∧ IntKind.wrap .i64 ((i : Int) + 1) = ((i + 1 : Nat) : Int) ∧ xs.drop i = xs[i] :: xs.drop (i + 1) := by
  simp only [maxLen] at hl
  refine ⟨decide_eq_true (by omega), decide_eq_true (by omega), ?_, by rw [wrap_succ (by omega) (by omega)]; rfl, List.drop_eq_getElem_cons h⟩
  rw [show (i : Int).toNat = i from rfl, List.getD_eq_getElem?_getD, List.getElem?_eq_getElem h]; rfl
theorem out_i {α : Type} {xs : List α} {i : Nat} (h : ¬ i < xs.length) : decide ((i : Int) < (xs.length : Int)) = false ∧ xs.drop i = [] :=
  ⟨decide_eq_false (by omega), List.drop_eq_nil_of_le (by omega)⟩
theorem ap1 {α : Type} {o : List α} {x : α} {i b : Nat} (hn : o.length ≤ i) (hi : i < 1048576) (hb : b ≤ 134217728) : (le47 (((o.length : Int) + (([x] : List α).length : Int)) * (b : Nat)) && le63 ((o.length : Int) + (([x] : List α).length : Int))) = true :=
  apCond (i := i) (by omega) (by omega) hb

/- 22 loop.example/g00513/spec.WithoutHostile -/
noncomputable def ft22 : Nat → Option FE := ftOf [(58, e58)]
def hint22 : Nat → Hint := fun
  | 3 => ⟨[1, 2, 4, 5, 6], [64, 128, 130, 160, 162], [4, 5], [128, 130, 160, 162], [], []⟩
  | _ => {}
def ord22 : Nat → List Nat := fun
  | 6 => [0, 1, 2, 3, 4, 5, 6, 7, 8, 9, 10]
  | _ => []
noncomputable def b22_rrlrll : Code := Code.l (Code.l (Code.r (Code.l (Code.r (Code.r (bodyOf Tryz.f22))))))
noncomputable def b22_rrr : Code := Code.r (Code.r (Code.r (bodyOf Tryz.f22)))
def S22_3 (x0 : List (Int)) (x1 : Int) (x2 : Int) (x3 : List (Int × Int × Int)) (x4 : List (Int × Int × Int)) (x5 : Int) (x6 : List (Int × Int × Int)) (x7 : Int) : St := ⟨[.bad, .d false c3 x0, .p 64 0, .bad, .p 128 0, .p 160 0, .v (.int .i64 x1), .bad, .bad, .bad, .bad, .bad, .bad, .bad, .bad, .bad, .bad, .bad, .bad, .bad, .bad, .bad, .bad, .bad, .bad, .bad, .bad, .bad, .bad, .bad, .bad, .bad, .bad, .bad, .bad, .bad, .bad, .bad, .bad, .bad, .bad, .bad, .bad, .bad, .bad, .bad], [(64, .box [.v (.int .i64 x2), .d false c176 x3]), (130, .sl true 125 c176 x4), (128, .box [.v (.int .i64 x5), .o 130]), (162, .sl true 125 c176 x6), (160, .box [.v (.int .i64 x7), .o 162])]⟩
def X22_3_0 (x0 : List (Int × Int × Int)) (x1 : Int) (x2 : List (Int × Int × Int)) (x3 : Int) : St := ⟨[.bad, .bad, .bad, .bad, .p 128 0, .p 160 0, .bad, .bad, .bad, .bad, .bad, .bad, .bad, .bad, .bad, .bad, .bad, .bad, .bad, .bad, .bad, .bad, .bad, .bad, .bad, .bad, .bad, .bad, .bad, .bad, .bad, .bad, .bad, .bad, .bad, .bad, .bad, .bad, .bad, .bad, .bad, .bad, .bad, .bad, .bad, .bad], [(130, .sl true 125 c176 x0), (128, .box [.v (.int .i64 x1), .o 130]), (162, .sl true 125 c176 x2), (160, .box [.v (.int .i64 x3), .o 162])]⟩
theorem en22 (n : Nat) (a0 : Int × (List (Int × Int × Int))) (a1 : List (Int)) : runF tab ft22 hint22 ord22 Tryz.f22 [(true, [.i .i64, .l c176]), (false, [.l c3])] [(true, [.i .i64, .l c176])] true n (a0, a1) =
  (loopK (codeK tab ft22 hint22 ord22 b22_rrlrll n) (hint22 3) n (S22_3 a1 0 a0.1 a0.2 ([]) 0 ([]) a0.1) (Ex.block 0 (sK tab ft22 hint22 ord22 n b22_rrr (retK tab Tryz.f22 true [(true, [.i .i64, .l c176])]))) : Option (Int × (List (Int × Int × Int)))) := by kernel_rfl
theorem st22_3 {R : Type} (n m : Nat) (K : Ex → St → Option R) (x0 : List (Int)) (x1 : Int) (x2 : Int) (x3 : List (Int × Int × Int)) (x4 : List (Int × Int × Int)) (x5 : Int) (x6 : List (Int × Int × Int)) (x7 : Int) : loopK (codeK tab ft22 hint22 ord22 b22_rrlrll n) (hint22 3) (m + 1) (S22_3 x0 x1 x2 x3 x4 x5 x6 x7) K =
  bif (decide (x1 < (x3.length : Int))) then
  (bif decide (0 ≤ x1) && decide (x1 < (x3.length : Int)) then
    (bif (hon x0 ((x3.getD x1.toNat d176).1)) then
      (bif decide (0 ≤ x1) && decide (x1 < (x3.length : Int)) then
        (bif (hon x0 (((x3.getD x1.toNat d176).2).1)) then
          (bif decide (0 ≤ x1) && decide (x1 < (x3.length : Int)) then
            (bif le47 (((x6.length : Int) + (([(x3.getD x1.toNat d176)]).length : Int)) * (24 : Nat)) && le63 ((x6.length : Int) + (([(x3.getD x1.toNat d176)]).length : Int)) then
              (loopK (codeK tab ft22 hint22 ord22 b22_rrlrll n) (hint22 3) m (S22_3 x0 (IntKind.wrap .i64 (x1 + 1)) x2 x3 x4 x5 (x6 ++ [(x3.getD x1.toNat d176)]) x7) K)
              else (none))
            else (none))
          else (loopK (codeK tab ft22 hint22 ord22 b22_rrlrll n) (hint22 3) m (S22_3 x0 (IntKind.wrap .i64 (x1 + 1)) x2 x3 x4 x5 x6 x7) K))
        else (none))
      else (loopK (codeK tab ft22 hint22 ord22 b22_rrlrll n) (hint22 3) m (S22_3 x0 (IntKind.wrap .i64 (x1 + 1)) x2 x3 x4 x5 x6 x7) K))
    else (none))
  else (K (.exit 0) (X22_3_0 x4 x5 x6 x7)) := by kernel_rfl
theorem ex22_3_0 (n : Nat) (x0 : List (Int × Int × Int)) (x1 : Int) (x2 : List (Int × Int × Int)) (x3 : Int) : (Ex.block 0 (sK tab ft22 hint22 ord22 n b22_rrr (retK tab Tryz.f22 true [(true, [.i .i64, .l c176])]))) (.exit 0) (X22_3_0 x0 x1 x2 x3) =
  (some (x3, x2) : Option (Int × (List (Int × Int × Int)))) := by kernel_rfl
abbrev ET22_3 : Type := ((List (Int × Int × Int)) × Int × (List (Int × Int × Int)) × Int)
def L22_3 (n : Nat) : Nat → (List (Int)) → (Int) → (Int) → (List (Int × Int × Int)) → (List (Int × Int × Int)) → (Int) → (List (Int × Int × Int)) → (Int) → Option ET22_3
  | 0, _, _, _, _, _, _, _, _ => none
  | m + 1, x0, x1, x2, x3, x4, x5, x6, x7 =>
  bif (decide (x1 < (x3.length : Int))) then
  (bif decide (0 ≤ x1) && decide (x1 < (x3.length : Int)) then
    (bif (hon x0 ((x3.getD x1.toNat d176).1)) then
      (bif decide (0 ≤ x1) && decide (x1 < (x3.length : Int)) then
        (bif (hon x0 (((x3.getD x1.toNat d176).2).1)) then
          (bif decide (0 ≤ x1) && decide (x1 < (x3.length : Int)) then
            (bif le47 (((x6.length : Int) + (([(x3.getD x1.toNat d176)]).length : Int)) * (24 : Nat)) && le63 ((x6.length : Int) + (([(x3.getD x1.toNat d176)]).length : Int)) then
              (L22_3 n m x0 (IntKind.wrap .i64 (x1 + 1)) x2 x3 x4 x5 (x6 ++ [(x3.getD x1.toNat d176)]) x7)
              else (none))
            else (none))
          else (L22_3 n m x0 (IntKind.wrap .i64 (x1 + 1)) x2 x3 x4 x5 x6 x7))
        else (none))
      else (L22_3 n m x0 (IntKind.wrap .i64 (x1 + 1)) x2 x3 x4 x5 x6 x7))
    else (none))
  else (some (x4, x5, x6, x7))
def DK22_3 {R : Type} (K : Ex → St → Option R) : ET22_3 → Option R := fun z => K (.exit 0) (X22_3_0 z.1 z.2.1 z.2.2.1 z.2.2.2)
theorem lp22_3 {R : Type} (n : Nat) : ∀ (m : Nat) (x0 : List (Int)) (x1 : Int) (x2 : Int) (x3 : List (Int × Int × Int)) (x4 : List (Int × Int × Int)) (x5 : Int) (x6 : List (Int × Int × Int)) (x7 : Int) (K : Ex → St → Option R), loopK (codeK tab ft22 hint22 ord22 b22_rrlrll n) (hint22 3) m (S22_3 x0 x1 x2 x3 x4 x5 x6 x7) K = (L22_3 n m x0 x1 x2 x3 x4 x5 x6 x7).bind (DK22_3 K)
  | 0, x0, x1, x2, x3, x4, x5, x6, x7, K => rfl
  | m + 1, x0, x1, x2, x3, x4, x5, x6, x7, K => by
    refine (st22_3 n m K x0 x1 x2 x3 x4 x5 x6 x7).trans ?_
    rw [L22_3]
    have IH : ∀ (x0 : List (Int)) (x1 : Int) (x2 : Int) (x3 : List (Int × Int × Int)) (x4 : List (Int × Int × Int)) (x5 : Int) (x6 : List (Int × Int × Int)) (x7 : Int), loopK (codeK tab ft22 hint22 ord22 b22_rrlrll n) (hint22 3) m (S22_3 x0 x1 x2 x3 x4 x5 x6 x7) K = (L22_3 n m x0 x1 x2 x3 x4 x5 x6 x7).bind (DK22_3 K) := fun x0 x1 x2 x3 x4 x5 x6 x7 => lp22_3 n m x0 x1 x2 x3 x4 x5 x6 x7 K
    exact (cond_b (cond_b (cond_b (cond_b (cond_b (cond_b (cond_b (IH x0 (IntKind.wrap .i64 (x1 + 1)) x2 x3 x4 x5 (x6 ++ [(x3.getD x1.toNat d176)]) x7) rfl) rfl) (IH x0 (IntKind.wrap .i64 (x1 + 1)) x2 x3 x4 x5 x6 x7)) rfl) (IH x0 (IntKind.wrap .i64 (x1 + 1)) x2 x3 x4 x5 x6 x7)) rfl) rfl)
def E22_3_0 (n : Nat) (x0 : List (Int × Int × Int)) (x1 : Int) (x2 : List (Int × Int × Int)) (x3 : Int) : Option (Int × (List (Int × Int × Int))) :=
  some (x3, x2)
def C22_3 (n : Nat) : ET22_3 → Option (Int × (List (Int × Int × Int))) := fun z => E22_3_0 n z.1 z.2.1 z.2.2.1 z.2.2.2
theorem exq22_3_0 (n : Nat) (x0 : List (Int × Int × Int)) (x1 : Int) (x2 : List (Int × Int × Int)) (x3 : Int) : (some (x3, x2) : Option (Int × (List (Int × Int × Int)))) = E22_3_0 n x0 x1 x2 x3 := by
  unfold E22_3_0
  exact rfl
theorem cq22_3 (n : Nat) : ∀ e, DK22_3 (Ex.block 0 (sK tab ft22 hint22 ord22 n b22_rrr (retK tab Tryz.f22 true [(true, [.i .i64, .l c176])]))) e = C22_3 n e := fun z => (ex22_3_0 n z.1 z.2.1 z.2.2.1 z.2.2.2).trans (exq22_3_0 n z.1 z.2.1 z.2.2.1 z.2.2.2)
def G22 (n : Nat) (a0 : Int × (List (Int × Int × Int))) (a1 : List (Int)) : Option (Int × (List (Int × Int × Int))) :=
  (L22_3 n n a1 0 a0.1 a0.2 ([]) 0 ([]) a0.1).bind (C22_3 n)
theorem g22 (n : Nat) (a0 : Int × (List (Int × Int × Int))) (a1 : List (Int)) : runF tab ft22 hint22 ord22 Tryz.f22 [(true, [.i .i64, .l c176]), (false, [.l c3])] [(true, [.i .i64, .l c176])] true n (a0, a1) = G22 n a0 a1 := by
  refine (en22 n a0 a1).trans ?_
  unfold G22
  exact ((lp22_3 n n a1 0 a0.1 a0.2 ([]) 0 ([]) a0.1 _).trans (bind_c fun e => cq22_3 n e))
def e22 : FE := ⟨[(true, [.i .i64, .l c176]), (false, [.l c3])], [(true, [.i .i64, .l c176])], true, false, pcut⟩
theorem cutLoop (n : Nat) (xs : List (Int × Int × Int)) (b : List Int) (s s' : Int) (hl : xs.length ≤ 1048576) : ∀ (m i : Nat) (o : List (Int × Int × Int)), i ≤ xs.length → o.length ≤ i → xs.length - i < m →
    L22_3 n m b (i : Int) s xs [] 0 o s' = some (([] : List (Int × Int × Int)), (0 : Int), o ++ (xs.drop i).filter (keepH b), s')
  | 0, i, o, _, _, hm => by omega
  | m + 1, i, o, hi, ho, hm => by
    rw [L22_3]
    by_cases hlt : i < xs.length
    · obtain ⟨e1, e2, e3, e4, e5⟩ := at_i d176 hlt (by simp only [maxLen]; omega)
      rw [e1, e2, e3, e4, e5, List.filter_cons, ap1 ho (by omega) (by decide)]
      have ih := fun o h => cutLoop n xs b s s' hl m (i + 1) o (by omega) h (by omega)
      unfold keepH at ih ⊢
      cases e1 : hon b xs[i].1 with
      | false => exact ih o (by omega)
      | true => cases e2 : hon b xs[i].2.1 with
        | false => exact ih o (by omega)
        | true => exact (ih (o ++ [xs[i]]) (by simp; omega)).trans (by simp)
    · obtain ⟨e1, e2⟩ := out_i hlt
      rw [e1, e2]; simp
theorem p22 : ∀ (a0 : Int × (List (Int × Int × Int))) (a1 : List (Int)) y, okP e22.ps (a0, a1) → e22.φ (a0, a1) = some y → ∃ n, G22 n a0 a1 = some y := by
  intro g b y ok h
  obtain ⟨hl, rfl⟩ := pcut_some h
  simp only at hl
  refine ⟨g.2.length + 1, ?_⟩
  unfold G22
  have h := cutLoop (g.2.length + 1) g.2 b g.1 g.1 hl (g.2.length + 1) 0 [] (by omega) (by simp) (by omega)
  rw [List.drop_zero] at h
  rw [show (0 : Int) = ((0 : Nat) : Int) from rfl]
  show (L22_3 (g.2.length + 1) (g.2.length + 1) b ((0 : Nat) : Int) g.1 g.2 [] 0 [] g.1).bind (C22_3 (g.2.length + 1)) = _
  rw [h]
  rfl
theorem r22 : ∀ x y, okP e22.ps x → e22.φ x = some y → ∃ n, runF tab ft22 hint22 ord22 Tryz.f22 e22.ps e22.rs e22.fr n x = some y := fun ⟨a0, a1⟩ y ok h =>
  match p22 _ _ y ok h with | ⟨n, hn⟩ => ⟨n, (g22 n _ _).trans hn⟩
theorem s22 : Sat Tryz.prog 22 e22 := sat_of_run Tryz.func22 (c := bodyOf Tryz.f22) (by kernel_rfl) (ne_of_dec (by kernel_rfl)) mixed tab_ok (by kernel_rfl) (ftOf_cons s58 ftOf_nil) (by kernel_rfl) (fun h => (Bool.false_ne_true h).elim) r22
end
end Go.Proofs.Ai

set_option linter.unusedVariables false
set_option linter.unusedSimpArgs false
namespace Go.Proofs.Ai
open Go.RowKit
noncomputable section
/- 69 (loop.example/g00513/impl.Graph).hasNode -/
noncomputable def ft69 : Nat → Option FE := ftOf [(73, e73)]
def hint69 : Nat → Hint := fun _ => {}
def ord69 : Nat → List Nat := fun _ => []
theorem en69 (n : Nat) (a0 : Int × (List (Int × Int × Int))) (a1 : Int) : runF tab ft69 hint69 ord69 Tryz.f69 [(true, [.i .i64, .l c176]), (false, [.i .i64])] [(false, [.b])] true n (a0, a1) =
  (some (inB a1 0 (IntKind.wrap .i64 (a0.1 - 1))) : Option (Bool)) := by kernel_rfl
def G69 (n : Nat) (a0 : Int × (List (Int × Int × Int))) (a1 : Int) : Option (Bool) :=
  some (inB a1 0 (IntKind.wrap .i64 (a0.1 - 1)))
theorem g69 (n : Nat) (a0 : Int × (List (Int × Int × Int))) (a1 : Int) : runF tab ft69 hint69 ord69 Tryz.f69 [(true, [.i .i64, .l c176]), (false, [.i .i64])] [(false, [.b])] true n (a0, a1) = G69 n a0 a1 := by
  refine (en69 n a0 a1).trans ?_
  unfold G69
  exact rfl

def T69 (a0 : Int × (List (Int × Int × Int))) (a1 : Int) : Bool := (inB a1 0 (IntKind.wrap .i64 (a0.1 - 1)))
def e69 : FE := ⟨[(true, [.i .i64, .l c176]), (false, [.i .i64])], [(false, [.b])], true, false, fun x => some (T69 x.1 x.2)⟩
theorem p69 : ∀ (a0 : Int × (List (Int × Int × Int))) (a1 : Int) y, okP e69.ps (a0, a1) → e69.φ (a0, a1) = some y → ∃ n, G69 n a0 a1 = some y := fun a0 a1 y ok h => ⟨0, h⟩
theorem r69 : ∀ x y, okP e69.ps x → e69.φ x = some y → ∃ n, runF tab ft69 hint69 ord69 Tryz.f69 e69.ps e69.rs e69.fr n x = some y := fun ⟨a0, a1⟩ y ok h =>
  match p69 _ _ y ok h with | ⟨n, hn⟩ => ⟨n, (g69 n _ _).trans hn⟩
theorem s69 : Sat Tryz.prog 69 e69 := sat_of_run Tryz.func69 (c := bodyOf Tryz.f69) (by kernel_rfl) (ne_of_dec (by kernel_rfl)) mixed tab_ok (by kernel_rfl) (ftOf_cons s73 ftOf_nil) (by kernel_rfl) (fun h => (Bool.false_ne_true h).elim) r69
/- 138 cmp.isNaN[int] -/
def ft138 : Nat → Option FE := ftOf []
def hint138 : Nat → Hint := fun _ => {}
def ord138 : Nat → List Nat := fun _ => []
theorem en138 (n : Nat) (a0 : Int) : runF tab ft138 hint138 ord138 Tryz.f138 [(false, [.i .i64])] [(false, [.b])] true n (a0) =
  (some (a0 != a0) : Option (Bool)) := by kernel_rfl
def G138 (n : Nat) (a0 : Int) : Option (Bool) :=
  some (a0 != a0)
theorem g138 (n : Nat) (a0 : Int) : runF tab ft138 hint138 ord138 Tryz.f138 [(false, [.i .i64])] [(false, [.b])] true n (a0) = G138 n a0 := by
  refine (en138 n a0).trans ?_
  unfold G138
  exact rfl

def T138 (a0 : Int) : Bool := (a0 != a0)
def e138 : FE := ⟨[(false, [.i .i64])], [(false, [.b])], true, false, fun x => some (T138 x)⟩
theorem p138 : ∀ (a0 : Int) y, okP e138.ps (a0) → e138.φ (a0) = some y → ∃ n, G138 n a0 = some y := fun a0 y ok h => ⟨0, h⟩
theorem r138 : ∀ x y, okP e138.ps x → e138.φ x = some y → ∃ n, runF tab ft138 hint138 ord138 Tryz.f138 e138.ps e138.rs e138.fr n x = some y := fun a0 y ok h =>
  match p138 _ y ok h with | ⟨n, hn⟩ => ⟨n, (g138 n _).trans hn⟩
theorem s138 : Sat Tryz.prog 138 e138 := sat_of_run Tryz.func138 (c := bodyOf Tryz.f138) (by kernel_rfl) (ne_of_dec (by kernel_rfl)) mixed tab_ok (by kernel_rfl) ftOf_nil (by kernel_rfl) (fun h => (Bool.false_ne_true h).elim) r138
/- 125 cmp.Compare[int] -/
noncomputable def ft125 : Nat → Option FE := ftOf [(138, e138)]
def hint125 : Nat → Hint := fun _ => {}
def ord125 : Nat → List Nat := fun _ => []
theorem en125 (n : Nat) (a0 : Int) (a1 : Int) : runF tab ft125 hint125 ord125 Tryz.f125 [(false, [.i .i64]), (false, [.i .i64])] [(false, [.i .i64])] true n (a0, a1) =
  (bif (T138 a0) then
  (bif (T138 a1) then
    (some 0)
    else (some (-1)))
  else (bif (T138 a1) then
    (some 1)
    else (bif (decide (a0 < a1)) then
      (some (-1))
      else (bif (decide (a0 > a1)) then
        (some 1)
        else (some 0)))) : Option (Int)) := by kernel_rfl
def G125 (n : Nat) (a0 : Int) (a1 : Int) : Option (Int) :=
  bif (T138 a0) then
  (bif (T138 a1) then
    (some 0)
    else (some (-1)))
  else (bif (T138 a1) then
    (some 1)
    else (bif (decide (a0 < a1)) then
      (some (-1))
      else (bif (decide (a0 > a1)) then
        (some 1)
        else (some 0))))
theorem g125 (n : Nat) (a0 : Int) (a1 : Int) : runF tab ft125 hint125 ord125 Tryz.f125 [(false, [.i .i64]), (false, [.i .i64])] [(false, [.i .i64])] true n (a0, a1) = G125 n a0 a1 := by
  refine (en125 n a0 a1).trans ?_
  unfold G125
  exact (cond_c (cond_c rfl rfl) (cond_c rfl (cond_c rfl (cond_c rfl rfl))))
def cmpI (a b : Int) : Int := bif decide (a < b) then -1 else bif decide (a > b) then 1 else 0
def e125 : FE := ⟨[(false, [.i .i64]), (false, [.i .i64])], [(false, [.i .i64])], true, false, fun x => some (cmpI x.1 x.2)⟩
theorem p125 : ∀ (a0 : Int) (a1 : Int) y, okP e125.ps (a0, a1) → e125.φ (a0, a1) = some y → ∃ n, G125 n a0 a1 = some y := by
  intro a b y ok h
  obtain rfl : cmpI a b = y := Option.some.inj h
  refine ⟨0, ?_⟩
  unfold G125 T138 cmpI
  have h1 : (a != a) = false := by simp
  have h2 : (b != b) = false := by simp
  rw [h1, h2]
  cases decide (a < b) <;> cases decide (a > b) <;> rfl
theorem r125 : ∀ x y, okP e125.ps x → e125.φ x = some y → ∃ n, runF tab ft125 hint125 ord125 Tryz.f125 e125.ps e125.rs e125.fr n x = some y := fun ⟨a0, a1⟩ y ok h =>
  match p125 _ _ y ok h with | ⟨n, hn⟩ => ⟨n, (g125 n _ _).trans hn⟩
theorem s125 : Sat Tryz.prog 125 e125 := sat_of_run Tryz.func125 (c := bodyOf Tryz.f125) (by kernel_rfl) (ne_of_dec (by kernel_rfl)) mixed tab_ok (by kernel_rfl) (ftOf_cons s138 ftOf_nil) (by kernel_rfl) (fun h => (Bool.false_ne_true h).elim) r125
/- 124 cmp.Or[int] -/
def ft124 : Nat → Option FE := ftOf []
def hint124 : Nat → Hint := fun
  | 3 => ⟨[3, 6, 7, 8], [], [3], [], [2], []⟩
  | _ => {}
def ord124 : Nat → List Nat := fun _ => []
noncomputable def b124_rrlrll : Code := Code.l (Code.l (Code.r (Code.l (Code.r (Code.r (bodyOf Tryz.f124))))))
noncomputable def b124_rrr : Code := Code.r (Code.r (Code.r (bodyOf Tryz.f124)))
def S124_3 (x0 : Int) (x1 : List (Int)) (x2 : Int) (x3 : Int) : St := ⟨[.bad, .bad, .bad, .v (.int .i64 x0), .bad, .bad, .d false c3 x1, .v (.int .i64 x2), .v (.int .i64 x3), .bad, .bad, .bad, .bad, .bad, .bad, .bad, .bad, .bad], []⟩
def X124_3_r (x0 : Int) : St := ⟨[.bad, .bad, .v (.int .i64 x0), .bad, .bad, .bad, .bad, .bad, .bad, .bad, .bad, .bad, .bad, .bad, .bad, .bad, .bad, .bad], []⟩
def X124_3_0 (x0 : Int) : St := ⟨[.bad, .bad, .bad, .v (.int .i64 x0), .bad, .bad, .bad, .bad, .bad, .bad, .bad, .bad, .bad, .bad, .bad, .bad, .bad, .bad], []⟩
theorem en124 (n : Nat) (a0 : List (Int)) : runF tab ft124 hint124 ord124 Tryz.f124 [(false, [.l c3])] [(false, [.i .i64])] true n (a0) =
  (loopK (codeK tab ft124 hint124 ord124 b124_rrlrll n) (hint124 3) n (S124_3 0 a0 (a0.length : Int) 0) (Ex.block 0 (sK tab ft124 hint124 ord124 n b124_rrr (retK tab Tryz.f124 true [(false, [.i .i64])]))) : Option (Int)) := by kernel_rfl
theorem st124_3 {R : Type} (n m : Nat) (K : Ex → St → Option R) (x0 : Int) (x1 : List (Int)) (x2 : Int) (x3 : Int) : loopK (codeK tab ft124 hint124 ord124 b124_rrlrll n) (hint124 3) (m + 1) (S124_3 x0 x1 x2 x3) K =
  bif (decide (x3 < x2)) then
  (bif decide (0 ≤ x3) && decide (x3 < (x1.length : Int)) then
    (bif ((x1.getD x3.toNat d3) != x0) then
      (K .ret (X124_3_r (x1.getD x3.toNat d3)))
      else (loopK (codeK tab ft124 hint124 ord124 b124_rrlrll n) (hint124 3) m (S124_3 x0 x1 x2 (IntKind.wrap .i64 (x3 + 1))) K))
    else (none))
  else (K (.exit 0) (X124_3_0 x0)) := by kernel_rfl
theorem ex124_3_r (n : Nat) (x0 : Int) : (Ex.block 0 (sK tab ft124 hint124 ord124 n b124_rrr (retK tab Tryz.f124 true [(false, [.i .i64])]))) .ret (X124_3_r x0) =
  (some x0 : Option (Int)) := by kernel_rfl
theorem ex124_3_0 (n : Nat) (x0 : Int) : (Ex.block 0 (sK tab ft124 hint124 ord124 n b124_rrr (retK tab Tryz.f124 true [(false, [.i .i64])]))) (.exit 0) (X124_3_0 x0) =
  (some x0 : Option (Int)) := by kernel_rfl
abbrev ET124_3 : Type := (Int) ⊕ (Int)
def L124_3 (n : Nat) : Nat → (Int) → (List (Int)) → (Int) → (Int) → Option ET124_3
  | 0, _, _, _, _ => none
  | m + 1, x0, x1, x2, x3 =>
  bif (decide (x3 < x2)) then
  (bif decide (0 ≤ x3) && decide (x3 < (x1.length : Int)) then
    (bif ((x1.getD x3.toNat d3) != x0) then
      (some (.inl ((x1.getD x3.toNat d3))))
      else (L124_3 n m x0 x1 x2 (IntKind.wrap .i64 (x3 + 1))))
    else (none))
  else (some (.inr (x0)))
def DK124_3 {R : Type} (K : Ex → St → Option R) : ET124_3 → Option R
  | (.inl z) => K .ret (X124_3_r z)
  | (.inr z) => K (.exit 0) (X124_3_0 z)
theorem lp124_3 {R : Type} (n : Nat) : ∀ (m : Nat) (x0 : Int) (x1 : List (Int)) (x2 : Int) (x3 : Int) (K : Ex → St → Option R), loopK (codeK tab ft124 hint124 ord124 b124_rrlrll n) (hint124 3) m (S124_3 x0 x1 x2 x3) K = (L124_3 n m x0 x1 x2 x3).bind (DK124_3 K)
  | 0, x0, x1, x2, x3, K => rfl
  | m + 1, x0, x1, x2, x3, K => by
    refine (st124_3 n m K x0 x1 x2 x3).trans ?_
    rw [L124_3]
    have IH : ∀ (x0 : Int) (x1 : List (Int)) (x2 : Int) (x3 : Int), loopK (codeK tab ft124 hint124 ord124 b124_rrlrll n) (hint124 3) m (S124_3 x0 x1 x2 x3) K = (L124_3 n m x0 x1 x2 x3).bind (DK124_3 K) := fun x0 x1 x2 x3 => lp124_3 n m x0 x1 x2 x3 K
    exact (cond_b (cond_b (cond_b rfl (IH x0 x1 x2 (IntKind.wrap .i64 (x3 + 1)))) rfl) rfl)
def E124_3_r (n : Nat) (x0 : Int) : Option (Int) :=
  some x0
def E124_3_0 (n : Nat) (x0 : Int) : Option (Int) :=
  some x0
def C124_3 (n : Nat) : ET124_3 → Option (Int)
  | (.inl z) => E124_3_r n z
  | (.inr z) => E124_3_0 n z
theorem exq124_3_r (n : Nat) (x0 : Int) : (some x0 : Option (Int)) = E124_3_r n x0 := by
  unfold E124_3_r
  exact rfl
theorem exq124_3_0 (n : Nat) (x0 : Int) : (some x0 : Option (Int)) = E124_3_0 n x0 := by
  unfold E124_3_0
  exact rfl
theorem cq124_3 (n : Nat) : ∀ e, DK124_3 (Ex.block 0 (sK tab ft124 hint124 ord124 n b124_rrr (retK tab Tryz.f124 true [(false, [.i .i64])]))) e = C124_3 n e
  | (.inl z) => (ex124_3_r n z).trans (exq124_3_r n z)
  | (.inr z) => (ex124_3_0 n z).trans (exq124_3_0 n z)
def G124 (n : Nat) (a0 : List (Int)) : Option (Int) :=
  (L124_3 n n 0 a0 (a0.length : Int) 0).bind (C124_3 n)
theorem g124 (n : Nat) (a0 : List (Int)) : runF tab ft124 hint124 ord124 Tryz.f124 [(false, [.l c3])] [(false, [.i .i64])] true n (a0) = G124 n a0 := by
  refine (en124 n a0).trans ?_
  unfold G124
  exact ((lp124_3 n n 0 a0 (a0.length : Int) 0 _).trans (bind_c fun e => cq124_3 n e))
def orO : List Int → Option Int
  | [] => none
  | a :: l => bif a != 0 then some a else orO l
def orI (l : List Int) : Int := (orO l).getD 0
theorem orLoop (n : Nat) (xs : List Int) (hl : xs.length ≤ maxLen) : ∀ (m i : Nat), i ≤ xs.length → xs.length - i < m → L124_3 n m 0 xs (xs.length : Int) (i : Int) = some (match orO (xs.drop i) with | some v => .inl v | none => .inr 0)
  | 0, i, _, hm => by omega
  | m + 1, i, hi, hm => by
    rw [L124_3]
    by_cases hlt : i < xs.length
    · obtain ⟨e1, e2, e3, e4, e5⟩ := at_i d3 hlt hl
      rw [e1, e2, e3, e4, e5, orO]
      have ih := orLoop n xs hl m (i + 1) (by omega) (by omega)
      cases hv : xs[i] != 0 with
      | true => rfl
      | false => exact ih
    · obtain ⟨e1, e2⟩ := out_i hlt
      rw [e1, e2]; rfl
def e124 : FE := ⟨[(false, [.l c3])], [(false, [.i .i64])], true, false, fun x => some (orI x)⟩
theorem p124 : ∀ (a0 : List (Int)) y, okP e124.ps (a0) → e124.φ (a0) = some y → ∃ n, G124 n a0 = some y := by
  intro a y ok h
  obtain rfl : orI a = y := Option.some.inj h
  refine ⟨a.length + 1, ?_⟩
  have hl : a.length ≤ maxLen := ok.1.1
  unfold G124
  have h := orLoop (a.length + 1) a hl (a.length + 1) 0 (by omega) (by omega)
  rw [List.drop_zero] at h
  show (L124_3 (a.length + 1) (a.length + 1) 0 a (a.length : Int) ((0 : Nat) : Int)).bind (C124_3 (a.length + 1)) = some (orI a : Int)
  rw [h]
  cases ho : orO a with
  | none => simp [orI, ho, C124_3, E124_3_0]
  | some v => simp [orI, ho, C124_3, E124_3_r]
theorem r124 : ∀ x y, okP e124.ps x → e124.φ x = some y → ∃ n, runF tab ft124 hint124 ord124 Tryz.f124 e124.ps e124.rs e124.fr n x = some y := fun a0 y ok h =>
  match p124 _ y ok h with | ⟨n, hn⟩ => ⟨n, (g124 n _).trans hn⟩
theorem s124 : Sat Tryz.prog 124 e124 := sat_of_run Tryz.func124 (c := bodyOf Tryz.f124) (by kernel_rfl) (ne_of_dec (by kernel_rfl)) mixed tab_ok (by kernel_rfl) ftOf_nil (by kernel_rfl) (fun h => (Bool.false_ne_true h).elim) r124
/- 103 loop.example/g00513/impl.compareEdges -/
noncomputable def ft103 : Nat → Option FE := ftOf [(124, e124), (125, e125)]
def hint103 : Nat → Hint := fun _ => {}
def ord103 : Nat → List Nat := fun
  | 1 => [0, 1, 2, 3, 5, 6, 7, 8, 4, 9, 10, 11, 12]
  | _ => []
theorem en103 (n : Nat) (a0 : Int × Int × Int) (a1 : Int × Int × Int) : runF tab ft103 hint103 ord103 Tryz.f103 [(true, [.i .i64, .i .i64, .i .i64]), (true, [.i .i64, .i .i64, .i .i64])] [(false, [.i .i64])] true n (a0, a1) =
  (some (orI ([(cmpI a0.1 a1.1), (cmpI a0.2.1 a1.2.1)])) : Option (Int)) := by kernel_rfl
def G103 (n : Nat) (a0 : Int × Int × Int) (a1 : Int × Int × Int) : Option (Int) :=
  some (orI ([(cmpI a0.1 a1.1), (cmpI a0.2.1 a1.2.1)]))
theorem g103 (n : Nat) (a0 : Int × Int × Int) (a1 : Int × Int × Int) : runF tab ft103 hint103 ord103 Tryz.f103 [(true, [.i .i64, .i .i64, .i .i64]), (true, [.i .i64, .i .i64, .i .i64])] [(false, [.i .i64])] true n (a0, a1) = G103 n a0 a1 := by
  refine (en103 n a0 a1).trans ?_
  unfold G103
  exact rfl

def T103 (a0 : Int × Int × Int) (a1 : Int × Int × Int) : Int := (orI ([(cmpI a0.1 a1.1), (cmpI a0.2.1 a1.2.1)]))
def e103 : FE := ⟨[(true, [.i .i64, .i .i64, .i .i64]), (true, [.i .i64, .i .i64, .i .i64])], [(false, [.i .i64])], true, false, fun x => some (T103 x.1 x.2)⟩
theorem p103 : ∀ (a0 : Int × Int × Int) (a1 : Int × Int × Int) y, okP e103.ps (a0, a1) → e103.φ (a0, a1) = some y → ∃ n, G103 n a0 a1 = some y := fun a0 a1 y ok h => ⟨0, h⟩
theorem r103 : ∀ x y, okP e103.ps x → e103.φ x = some y → ∃ n, runF tab ft103 hint103 ord103 Tryz.f103 e103.ps e103.rs e103.fr n x = some y := fun ⟨a0, a1⟩ y ok h =>
  match p103 _ _ y ok h with | ⟨n, hn⟩ => ⟨n, (g103 n _ _).trans hn⟩
theorem s103 : Sat Tryz.prog 103 e103 := sat_of_run Tryz.func103 (c := bodyOf Tryz.f103) (by kernel_rfl) (ne_of_dec (by kernel_rfl)) mixed tab_ok (by kernel_rfl) (ftOf_cons s124 (ftOf_cons s125 ftOf_nil)) (by kernel_rfl) (fun h => (Bool.false_ne_true h).elim) r103
/- 129 slices.Index[[]int,int] -/
def ft129 : Nat → Option FE := ftOf []
def hint129 : Nat → Hint := fun
  | 2 => ⟨[0, 1, 7, 8], [], [], [], [4], []⟩
  | _ => {}
def ord129 : Nat → List Nat := fun _ => []
noncomputable def b129_rlrll : Code := Code.l (Code.l (Code.r (Code.l (Code.r (bodyOf Tryz.f129)))))
noncomputable def b129_rr : Code := Code.r (Code.r (bodyOf Tryz.f129))
def S129_2 (x0 : List (Int)) (x1 : Int) (x2 : Int) (x3 : Int) : St := ⟨[.d false c3 x0, .v (.int .i64 x1), .bad, .bad, .bad, .bad, .bad, .v (.int .i64 x2), .v (.int .i64 x3), .bad, .bad, .bad, .bad, .bad, .bad, .bad, .bad, .bad, .bad], []⟩
def X129_2_r (x0 : Int) : St := ⟨[.bad, .bad, .bad, .bad, .v (.int .i64 x0), .bad, .bad, .bad, .bad, .bad, .bad, .bad, .bad, .bad, .bad, .bad, .bad, .bad, .bad], []⟩
def X129_2_0 : St := ⟨[.bad, .bad, .bad, .bad, .bad, .bad, .bad, .bad, .bad, .bad, .bad, .bad, .bad, .bad, .bad, .bad, .bad, .bad, .bad], []⟩
theorem en129 (n : Nat) (a0 : List (Int)) (a1 : Int) : runF tab ft129 hint129 ord129 Tryz.f129 [(false, [.l c3]), (false, [.i .i64])] [(false, [.i .i64])] true n (a0, a1) =
  (loopK (codeK tab ft129 hint129 ord129 b129_rlrll n) (hint129 2) n (S129_2 a0 a1 (a0.length : Int) 0) (Ex.block 0 (sK tab ft129 hint129 ord129 n b129_rr (retK tab Tryz.f129 true [(false, [.i .i64])]))) : Option (Int)) := by kernel_rfl
theorem st129_2 {R : Type} (n m : Nat) (K : Ex → St → Option R) (x0 : List (Int)) (x1 : Int) (x2 : Int) (x3 : Int) : loopK (codeK tab ft129 hint129 ord129 b129_rlrll n) (hint129 2) (m + 1) (S129_2 x0 x1 x2 x3) K =
  bif (decide (x3 < x2)) then
  (bif decide (0 ≤ x3) && decide (x3 < (x0.length : Int)) then
    (bif (x1 == (x0.getD x3.toNat d3)) then
      (K .ret (X129_2_r x3))
      else (loopK (codeK tab ft129 hint129 ord129 b129_rlrll n) (hint129 2) m (S129_2 x0 x1 x2 (IntKind.wrap .i64 (x3 + 1))) K))
    else (none))
  else (K (.exit 0) (X129_2_0 )) := by kernel_rfl
theorem ex129_2_r (n : Nat) (x0 : Int) : (Ex.block 0 (sK tab ft129 hint129 ord129 n b129_rr (retK tab Tryz.f129 true [(false, [.i .i64])]))) .ret (X129_2_r x0) =
  (some x0 : Option (Int)) := by kernel_rfl
theorem ex129_2_0 (n : Nat) : (Ex.block 0 (sK tab ft129 hint129 ord129 n b129_rr (retK tab Tryz.f129 true [(false, [.i .i64])]))) (.exit 0) (X129_2_0 ) =
  (some (-1) : Option (Int)) := by kernel_rfl
abbrev ET129_2 : Type := (Int) ⊕ (Unit)
def L129_2 (n : Nat) : Nat → (List (Int)) → (Int) → (Int) → (Int) → Option ET129_2
  | 0, _, _, _, _ => none
  | m + 1, x0, x1, x2, x3 =>
  bif (decide (x3 < x2)) then
  (bif decide (0 ≤ x3) && decide (x3 < (x0.length : Int)) then
    (bif (x1 == (x0.getD x3.toNat d3)) then
      (some (.inl (x3)))
      else (L129_2 n m x0 x1 x2 (IntKind.wrap .i64 (x3 + 1))))
    else (none))
  else (some (.inr ()))
def DK129_2 {R : Type} (K : Ex → St → Option R) : ET129_2 → Option R
  | (.inl z) => K .ret (X129_2_r z)
  | (.inr z) => K (.exit 0) (X129_2_0)
theorem lp129_2 {R : Type} (n : Nat) : ∀ (m : Nat) (x0 : List (Int)) (x1 : Int) (x2 : Int) (x3 : Int) (K : Ex → St → Option R), loopK (codeK tab ft129 hint129 ord129 b129_rlrll n) (hint129 2) m (S129_2 x0 x1 x2 x3) K = (L129_2 n m x0 x1 x2 x3).bind (DK129_2 K)
  | 0, x0, x1, x2, x3, K => rfl
  | m + 1, x0, x1, x2, x3, K => by
    refine (st129_2 n m K x0 x1 x2 x3).trans ?_
    rw [L129_2]
    have IH : ∀ (x0 : List (Int)) (x1 : Int) (x2 : Int) (x3 : Int), loopK (codeK tab ft129 hint129 ord129 b129_rlrll n) (hint129 2) m (S129_2 x0 x1 x2 x3) K = (L129_2 n m x0 x1 x2 x3).bind (DK129_2 K) := fun x0 x1 x2 x3 => lp129_2 n m x0 x1 x2 x3 K
    exact (cond_b (cond_b (cond_b rfl (IH x0 x1 x2 (IntKind.wrap .i64 (x3 + 1)))) rfl) rfl)
def E129_2_r (n : Nat) (x0 : Int) : Option (Int) :=
  some x0
def E129_2_0 (n : Nat) : Option (Int) :=
  some (-1)
def C129_2 (n : Nat) : ET129_2 → Option (Int)
  | (.inl z) => E129_2_r n z
  | (.inr z) => E129_2_0 n
theorem exq129_2_r (n : Nat) (x0 : Int) : (some x0 : Option (Int)) = E129_2_r n x0 := by
  unfold E129_2_r
  exact rfl
theorem exq129_2_0 (n : Nat) : (some (-1) : Option (Int)) = E129_2_0 n := by
  unfold E129_2_0
  exact rfl
theorem cq129_2 (n : Nat) : ∀ e, DK129_2 (Ex.block 0 (sK tab ft129 hint129 ord129 n b129_rr (retK tab Tryz.f129 true [(false, [.i .i64])]))) e = C129_2 n e
  | (.inl z) => (ex129_2_r n z).trans (exq129_2_r n z)
  | (.inr z) => (ex129_2_0 n).trans (exq129_2_0 n)
def G129 (n : Nat) (a0 : List (Int)) (a1 : Int) : Option (Int) :=
  (L129_2 n n a0 a1 (a0.length : Int) 0).bind (C129_2 n)
theorem g129 (n : Nat) (a0 : List (Int)) (a1 : Int) : runF tab ft129 hint129 ord129 Tryz.f129 [(false, [.l c3]), (false, [.i .i64])] [(false, [.i .i64])] true n (a0, a1) = G129 n a0 a1 := by
  refine (en129 n a0 a1).trans ?_
  unfold G129
  exact ((lp129_2 n n a0 a1 (a0.length : Int) 0 _).trans (bind_c fun e => cq129_2 n e))
def ixI (v : Int) : Int → List Int → Int
  | _, [] => -1
  | i, x :: r => bif v == x then i else ixI v (i + 1) r
theorem ixLoop (n : Nat) (xs : List Int) (v : Int) (hl : xs.length ≤ maxLen) : ∀ (m i : Nat), i ≤ xs.length → xs.length - i < m → (L129_2 n m xs v (xs.length : Int) (i : Int)).bind (C129_2 n) = some (ixI v i (xs.drop i))
  | 0, i, _, hm => by omega
  | m + 1, i, hi, hm => by
    rw [L129_2]
    by_cases hlt : i < xs.length
    · obtain ⟨e1, e2, e3, e4, e5⟩ := at_i d3 hlt hl
      rw [e1, e2, e3, e4, e5, ixI]
      have ih := ixLoop n xs v hl m (i + 1) (by omega) (by omega)
      cases hv : v == xs[i] with
      | true => rfl
      | false => exact ih
    · obtain ⟨e1, e2⟩ := out_i hlt
      rw [e1, e2]; rfl
def e129 : FE := ⟨[(false, [.l c3]), (false, [.i .i64])], [(false, [.i .i64])], true, false, fun x => some (ixI x.2 0 x.1)⟩
theorem p129 : ∀ (a0 : List (Int)) (a1 : Int) y, okP e129.ps (a0, a1) → e129.φ (a0, a1) = some y → ∃ n, G129 n a0 a1 = some y := by
  intro a v y ok h
  obtain rfl : ixI v 0 a = y := Option.some.inj h
  refine ⟨a.length + 1, ?_⟩
  have hl : a.length ≤ maxLen := ok.1.1
  unfold G129
  have := ixLoop (a.length + 1) a v hl (a.length + 1) 0 (by omega) (by omega)
  rw [List.drop_zero] at this
  exact this
theorem r129 : ∀ x y, okP e129.ps x → e129.φ x = some y → ∃ n, runF tab ft129 hint129 ord129 Tryz.f129 e129.ps e129.rs e129.fr n x = some y := fun ⟨a0, a1⟩ y ok h =>
  match p129 _ _ y ok h with | ⟨n, hn⟩ => ⟨n, (g129 n _ _).trans hn⟩
theorem s129 : Sat Tryz.prog 129 e129 := sat_of_run Tryz.func129 (c := bodyOf Tryz.f129) (by kernel_rfl) (ne_of_dec (by kernel_rfl)) mixed tab_ok (by kernel_rfl) ftOf_nil (by kernel_rfl) (fun h => (Bool.false_ne_true h).elim) r129
/- 107 slices.Contains[[]int,int] -/
noncomputable def ft107 : Nat → Option FE := ftOf [(129, e129)]
def hint107 : Nat → Hint := fun _ => {}
def ord107 : Nat → List Nat := fun _ => []
theorem en107 (n : Nat) (a0 : List (Int)) (a1 : Int) : runF tab ft107 hint107 ord107 Tryz.f107 [(false, [.l c3]), (false, [.i .i64])] [(false, [.b])] true n (a0, a1) =
  (some (decide ((ixI a1 0 a0) ≥ 0)) : Option (Bool)) := by kernel_rfl
def G107 (n : Nat) (a0 : List (Int)) (a1 : Int) : Option (Bool) :=
  some (decide ((ixI a1 0 a0) ≥ 0))
theorem g107 (n : Nat) (a0 : List (Int)) (a1 : Int) : runF tab ft107 hint107 ord107 Tryz.f107 [(false, [.l c3]), (false, [.i .i64])] [(false, [.b])] true n (a0, a1) = G107 n a0 a1 := by
  refine (en107 n a0 a1).trans ?_
  unfold G107
  exact rfl

def T107 (a0 : List (Int)) (a1 : Int) : Bool := (decide ((ixI a1 0 a0) ≥ 0))
def e107 : FE := ⟨[(false, [.l c3]), (false, [.i .i64])], [(false, [.b])], true, false, fun x => some (T107 x.1 x.2)⟩
theorem p107 : ∀ (a0 : List (Int)) (a1 : Int) y, okP e107.ps (a0, a1) → e107.φ (a0, a1) = some y → ∃ n, G107 n a0 a1 = some y := fun a0 a1 y ok h => ⟨0, h⟩
theorem r107 : ∀ x y, okP e107.ps x → e107.φ x = some y → ∃ n, runF tab ft107 hint107 ord107 Tryz.f107 e107.ps e107.rs e107.fr n x = some y := fun ⟨a0, a1⟩ y ok h =>
  match p107 _ _ y ok h with | ⟨n, hn⟩ => ⟨n, (g107 n _ _).trans hn⟩
theorem s107 : Sat Tryz.prog 107 e107 := sat_of_run Tryz.func107 (c := bodyOf Tryz.f107) (by kernel_rfl) (ne_of_dec (by kernel_rfl)) mixed tab_ok (by kernel_rfl) (ftOf_cons s129 ftOf_nil) (by kernel_rfl) (fun h => (Bool.false_ne_true h).elim) r107
end
end Go.Proofs.Ai
