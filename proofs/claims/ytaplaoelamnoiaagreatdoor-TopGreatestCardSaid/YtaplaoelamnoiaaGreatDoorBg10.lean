/- Texts that lie in one file: what is plain, rows, boxes, squares, and what is known of a world. No condition. -/
import Derived.Test.YtaplaoelamnoiaaGreatDoorBg07
/- The lines of the four laws, and their words. No condition. -/
namespace Go.Proofs.YtaplaoelamnoiaaGreatDoor
open Go.RowKit
namespace M
def t1S : ByteArray := ⟨#[126, 49, 32, 48, 226, 136, 167, 49, 32, 49]⟩
def t1T : List Tok := [⟨4, 17, 0, noText, 0⟩, ⟨1, 0, 1, noText, 1⟩, ⟨1, 0, 0, noText, 3⟩, ⟨4, 14, 0, noText, 4⟩, ⟨1, 0, 1, noText, 7⟩, ⟨1, 0, 1, noText, 9⟩]
def t2S : ByteArray := ⟨#[126, 109, 226, 136, 167, 110]⟩
def t2T : List Tok := [⟨4, 17, 0, noText, 0⟩, ⟨3, 0, 0, ⟨#[109]⟩, 1⟩, ⟨4, 14, 0, noText, 2⟩, ⟨3, 0, 0, ⟨#[110]⟩, 5⟩]
def t3S : ByteArray := ⟨#[40, 126, 109, 41, 226, 136, 168, 126, 110]⟩
def t3T : List Tok := [⟨5, 0, 0, noText, 0⟩, ⟨4, 17, 0, noText, 1⟩, ⟨3, 0, 0, ⟨#[109]⟩, 2⟩, ⟨6, 0, 0, noText, 3⟩, ⟨4, 15, 0, noText, 4⟩, ⟨4, 17, 0, noText, 7⟩, ⟨3, 0, 0, ⟨#[110]⟩, 8⟩]
def t4S : ByteArray := ⟨#[126, 109, 226, 136, 168, 110]⟩
def t4T : List Tok := [⟨4, 17, 0, noText, 0⟩, ⟨3, 0, 0, ⟨#[109]⟩, 1⟩, ⟨4, 15, 0, noText, 2⟩, ⟨3, 0, 0, ⟨#[110]⟩, 5⟩]
def t5S : ByteArray := ⟨#[40, 126, 109, 41, 226, 136, 167, 126, 110]⟩
def t5T : List Tok := [⟨5, 0, 0, noText, 0⟩, ⟨4, 17, 0, noText, 1⟩, ⟨3, 0, 0, ⟨#[109]⟩, 2⟩, ⟨6, 0, 0, noText, 3⟩, ⟨4, 14, 0, noText, 4⟩, ⟨4, 17, 0, noText, 7⟩, ⟨3, 0, 0, ⟨#[110]⟩, 8⟩]
def v1S : ByteArray := ⟨#[40, 126, 112, 226, 136, 138, 112, 226, 136, 152, 46, 195, 151, 112, 41, 47, 112]⟩
def v1T : List Tok := [⟨5, 0, 0, noText, 0⟩, ⟨4, 17, 0, noText, 1⟩, ⟨3, 0, 0, ⟨#[112]⟩, 2⟩, ⟨4, 25, 0, noText, 3⟩, ⟨3, 0, 0, ⟨#[112]⟩, 6⟩, ⟨11, 0, 0, noText, 7⟩, ⟨12, 0, 0, noText, 10⟩, ⟨4, 3, 0, noText, 11⟩, ⟨3, 0, 0, ⟨#[112]⟩, 13⟩, ⟨6, 0, 0, noText, 14⟩, ⟨4, 33, 0, noText, 15⟩, ⟨3, 0, 0, ⟨#[112]⟩, 16⟩]
def v2S : ByteArray := ⟨#[50, 226, 134, 147, 226, 141, 179, 110]⟩
def v2T : List Tok := [⟨1, 0, 2, noText, 0⟩, ⟨4, 23, 0, noText, 1⟩, ⟨4, 24, 0, noText, 4⟩, ⟨3, 0, 0, ⟨#[110]⟩, 7⟩]
def s1S : ByteArray := ⟨#[49, 48, 32, 49, 48, 32, 49, 48, 226, 138, 164, 52, 55, 50]⟩
def s1T : List Tok := [⟨1, 0, 10, noText, 0⟩, ⟨1, 0, 10, noText, 3⟩, ⟨1, 0, 10, noText, 6⟩, ⟨4, 31, 0, noText, 8⟩, ⟨1, 0, 472, noText, 11⟩]
def s2S : ByteArray := ⟨#[98, 226, 138, 165, 40, 51, 226, 141, 180, 98, 41, 226, 138, 164, 110]⟩
def s2T : List Tok := [⟨3, 0, 0, ⟨#[98]⟩, 0⟩, ⟨4, 30, 0, noText, 1⟩, ⟨5, 0, 0, noText, 4⟩, ⟨1, 0, 3, noText, 5⟩, ⟨4, 18, 0, noText, 6⟩, ⟨3, 0, 0, ⟨#[98]⟩, 9⟩, ⟨6, 0, 0, noText, 10⟩, ⟨4, 31, 0, noText, 11⟩, ⟨3, 0, 0, ⟨#[110]⟩, 14⟩]
def g1S : ByteArray := ⟨#[226, 140, 136, 47, 51, 32, 57, 32, 52]⟩
def g1T : List Tok := [⟨4, 6, 0, noText, 0⟩, ⟨4, 33, 0, noText, 3⟩, ⟨1, 0, 3, noText, 4⟩, ⟨1, 0, 9, noText, 6⟩, ⟨1, 0, 4, noText, 8⟩]
def g2S : ByteArray := ⟨#[226, 140, 136, 47, 118]⟩
def g2T : List Tok := [⟨4, 6, 0, noText, 0⟩, ⟨4, 33, 0, noText, 3⟩, ⟨3, 0, 0, ⟨#[118]⟩, 4⟩]
def g3S : ByteArray := ⟨#[118, 91, 40, 226, 141, 139, 118, 41, 91, 40, 43, 47, 226, 141, 180, 118, 41, 45, 49, 93, 93]⟩
def g3T : List Tok := [⟨3, 0, 0, ⟨#[118]⟩, 0⟩, ⟨7, 0, 0, noText, 1⟩, ⟨5, 0, 0, noText, 2⟩, ⟨4, 26, 0, noText, 3⟩, ⟨3, 0, 0, ⟨#[118]⟩, 6⟩, ⟨6, 0, 0, noText, 7⟩, ⟨7, 0, 0, noText, 8⟩, ⟨5, 0, 0, noText, 9⟩, ⟨4, 1, 0, noText, 10⟩, ⟨4, 33, 0, noText, 11⟩, ⟨4, 18, 0, noText, 12⟩, ⟨3, 0, 0, ⟨#[118]⟩, 15⟩, ⟨6, 0, 0, noText, 16⟩, ⟨4, 2, 0, noText, 17⟩, ⟨1, 0, 1, noText, 18⟩, ⟨8, 0, 0, noText, 19⟩, ⟨8, 0, 0, noText, 20⟩]
def g4S : ByteArray := ⟨#[226, 140, 138, 47, 118]⟩
def g4T : List Tok := [⟨4, 7, 0, noText, 0⟩, ⟨4, 33, 0, noText, 3⟩, ⟨3, 0, 0, ⟨#[118]⟩, 4⟩]
def g5S : ByteArray := ⟨#[118, 91, 40, 226, 141, 139, 118, 41, 91, 48, 93, 93]⟩
def g5T : List Tok := [⟨3, 0, 0, ⟨#[118]⟩, 0⟩, ⟨7, 0, 0, noText, 1⟩, ⟨5, 0, 0, noText, 2⟩, ⟨4, 26, 0, noText, 3⟩, ⟨3, 0, 0, ⟨#[118]⟩, 6⟩, ⟨6, 0, 0, noText, 7⟩, ⟨7, 0, 0, noText, 8⟩, ⟨1, 0, 0, noText, 9⟩, ⟨8, 0, 0, noText, 10⟩, ⟨8, 0, 0, noText, 11⟩]
end M
theorem t1_lex : M.lexFrom M.t1S 30 0 = some M.t1T := by kernel_rfl
theorem t2_lex : M.lexFrom M.t2S 30 0 = some M.t2T := by kernel_rfl
theorem t3_lex : M.lexFrom M.t3S 30 0 = some M.t3T := by kernel_rfl
theorem t4_lex : M.lexFrom M.t4S 30 0 = some M.t4T := by kernel_rfl
theorem t5_lex : M.lexFrom M.t5S 30 0 = some M.t5T := by kernel_rfl
theorem v1_lex : M.lexFrom M.v1S 30 0 = some M.v1T := by kernel_rfl
theorem v2_lex : M.lexFrom M.v2S 30 0 = some M.v2T := by kernel_rfl
theorem s1_lex : M.lexFrom M.s1S 30 0 = some M.s1T := by kernel_rfl
theorem s2_lex : M.lexFrom M.s2S 30 0 = some M.s2T := by kernel_rfl
theorem g1_lex : M.lexFrom M.g1S 30 0 = some M.g1T := by kernel_rfl
theorem g2_lex : M.lexFrom M.g2S 30 0 = some M.g2T := by kernel_rfl
theorem g3_lex : M.lexFrom M.g3S 30 0 = some M.g3T := by kernel_rfl
theorem g4_lex : M.lexFrom M.g4S 30 0 = some M.g4T := by kernel_rfl
theorem g5_lex : M.lexFrom M.g5S 30 0 = some M.g5T := by kernel_rfl
end Go.Proofs.YtaplaoelamnoiaaGreatDoor

/- What the lines of the four laws say. No condition. -/
namespace Go.Proofs.YtaplaoelamnoiaaGreatDoor
open Go.RowKit
namespace M
def t1E : Ex := (.one 0 17 0 (.two (.nums [1, 0]) 0 14 0 (.nums [1, 1])))
def t2E : Ex := (.one 0 17 0 (.two (.name ⟨#[109]⟩) 0 14 0 (.name ⟨#[110]⟩)))
def t3E : Ex := (.two (.one 0 17 0 (.name ⟨#[109]⟩)) 0 15 0 (.one 0 17 0 (.name ⟨#[110]⟩)))
def t4E : Ex := (.one 0 17 0 (.two (.name ⟨#[109]⟩) 0 15 0 (.name ⟨#[110]⟩)))
def t5E : Ex := (.two (.one 0 17 0 (.name ⟨#[109]⟩)) 0 14 0 (.one 0 17 0 (.name ⟨#[110]⟩)))
def v1E : Ex := (.two (.one 0 17 0 (.two (.name ⟨#[112]⟩) 0 25 0 (.two (.name ⟨#[112]⟩) 3 3 0 (.name ⟨#[112]⟩)))) 0 33 0 (.name ⟨#[112]⟩))
def v2E : Ex := (.two (.nums [2]) 0 23 0 (.one 0 24 0 (.name ⟨#[110]⟩)))
def s1E : Ex := (.two (.nums [10, 10, 10]) 0 31 0 (.nums [472]))
def s2E : Ex := (.two (.name ⟨#[98]⟩) 0 30 0 (.two (.two (.nums [3]) 0 18 0 (.name ⟨#[98]⟩)) 0 31 0 (.name ⟨#[110]⟩)))
def g1E : Ex := (.one 1 6 0 (.nums [3, 9, 4]))
def g2E : Ex := (.one 1 6 0 (.name ⟨#[118]⟩))
def g3E : Ex := (.pick (.name ⟨#[118]⟩) (.pick (.one 0 26 0 (.name ⟨#[118]⟩)) (.two (.one 1 1 0 (.one 0 18 0 (.name ⟨#[118]⟩))) 0 2 0 (.nums [1]))))
def g4E : Ex := (.one 1 7 0 (.name ⟨#[118]⟩))
def g5E : Ex := (.pick (.name ⟨#[118]⟩) (.pick (.one 0 26 0 (.name ⟨#[118]⟩)) (.nums [0])))
end M
theorem t1_tree : M.pExpr M.t1T 12 0 = some (M.t1E, M.t1T.length) := by kernel_rfl
theorem t2_tree : M.pExpr M.t2T 12 0 = some (M.t2E, M.t2T.length) := by kernel_rfl
theorem t3_tree : M.pExpr M.t3T 12 0 = some (M.t3E, M.t3T.length) := by kernel_rfl
theorem t4_tree : M.pExpr M.t4T 12 0 = some (M.t4E, M.t4T.length) := by kernel_rfl
theorem t5_tree : M.pExpr M.t5T 12 0 = some (M.t5E, M.t5T.length) := by kernel_rfl
theorem v1_tree : M.pExpr M.v1T 12 0 = some (M.v1E, M.v1T.length) := by kernel_rfl
theorem v2_tree : M.pExpr M.v2T 12 0 = some (M.v2E, M.v2T.length) := by kernel_rfl
theorem s1_tree : M.pExpr M.s1T 12 0 = some (M.s1E, M.s1T.length) := by kernel_rfl
theorem s2_tree : M.pExpr M.s2T 12 0 = some (M.s2E, M.s2T.length) := by kernel_rfl
theorem g1_tree : M.pExpr M.g1T 12 0 = some (M.g1E, M.g1T.length) := by kernel_rfl
theorem g2_tree : M.pExpr M.g2T 12 0 = some (M.g2E, M.g2T.length) := by kernel_rfl
theorem g3_tree : M.pExpr M.g3T 12 0 = some (M.g3E, M.g3T.length) := by kernel_rfl
theorem g4_tree : M.pExpr M.g4T 12 0 = some (M.g4E, M.g4T.length) := by kernel_rfl
theorem g5_tree : M.pExpr M.g5T 12 0 = some (M.g5E, M.g5T.length) := by kernel_rfl
end Go.Proofs.YtaplaoelamnoiaaGreatDoor
