/- The records of the calls of trees: their arguments and answers. -/
import Derived.Test.YtanfmlmcddanjaaGreatDoorRPlA
set_option linter.all false
namespace Go.Proofs.YtanfmlmcddanjaaGreatDoorR
open Go Go.Qa

def tx1 : List UInt8 := [112, 114, 111, 103, 114, 97, 109, 32, 112]
def tx2 : List UInt8 := [105, 110, 116, 101, 103, 101, 114, 32, 58, 58, 32, 105]
def tx3 : List UInt8 := [100, 111, 32, 105, 32, 61, 32, 49, 44, 32, 53]
def tx4 : List UInt8 := [112, 114, 105, 110, 116, 32, 42, 44, 32, 105]
def tx5 : List UInt8 := [101, 110, 100, 32, 100, 111]
def tx6 : List UInt8 := [101, 110, 100]
def tx : List UInt8 := [112, 114, 111, 103, 114, 97, 109, 32, 112, 10, 105, 110, 116, 101, 103, 101, 114, 32, 58, 58, 32, 105, 10, 100, 111, 32, 105, 32, 61, 32, 49, 44, 32, 53, 10, 112, 114, 105, 110, 116, 32, 42, 44, 32, 105, 10, 101, 110, 100, 32, 100, 111, 10, 101, 110, 100, 10]
def sc1 : AV := .tup [.row none false 2 [.agg [.str [110, 97, 109, 101], .str [112, 114, 111, 103, 114, 97, 109]], .agg [.str [110, 97, 109, 101], .str [112]]], .int .i64 0, .int .i64 0]
def sc2 : AV := .tup [.row none false 2 [.agg [.str [110, 97, 109, 101], .str [105, 110, 116, 101, 103, 101, 114]], .agg [.str [111, 112], .str [58, 58]], .agg [.str [110, 97, 109, 101], .str [105]]], .int .i64 0, .int .i64 0]
def sc3 : AV := .tup [.row none false 2 [.agg [.str [110, 97, 109, 101], .str [100, 111]], .agg [.str [110, 97, 109, 101], .str [105]], .agg [.str [111, 112], .str [61]], .agg [.str [105, 110, 116], .str [49]], .agg [.str [111, 112], .str [44]], .agg [.str [105, 110, 116], .str [53]]], .int .i64 0, .int .i64 0]
def sc4 : AV := .tup [.row none false 2 [.agg [.str [110, 97, 109, 101], .str [112, 114, 105, 110, 116]], .agg [.str [111, 112], .str [42]], .agg [.str [111, 112], .str [44]], .agg [.str [110, 97, 109, 101], .str [105]]], .int .i64 0, .int .i64 0]
def sc5 : AV := .tup [.row none false 2 [.agg [.str [110, 97, 109, 101], .str [101, 110, 100]], .agg [.str [110, 97, 109, 101], .str [100, 111]]], .int .i64 0, .int .i64 0]
def sc6 : AV := .tup [.row none false 2 [.agg [.str [110, 97, 109, 101], .str [101, 110, 100]]], .int .i64 0, .int .i64 0]
def it1 : AV := .bool true
def it2 : AV := .bool true
def it3 : AV := .bool true
def it4 : AV := .bool true
def it5 : AV := .bool true
def it6 : AV := .bool true
def mIT : Nat × List (List AV × AV) := (211, [([.str tx1], it1), ([.str tx2], it2), ([.str tx3], it3), ([.str tx4], it4), ([.str tx5], it5), ([.str tx6], it6)])
def mSC : Nat × List (List AV × AV) := (350, [([.str tx1], sc1), ([.str tx2], sc2), ([.str tx3], sc3), ([.str tx4], sc4), ([.str tx5], sc5), ([.str tx6], sc6)])
def nw : AV := .tup [.row none false 3 [.agg [.int .i64 0, .str [112, 114, 111, 103, 114, 97, 109, 32, 112], .int .i64 1], .agg [.int .i64 0, .str [105, 110, 116, 101, 103, 101, 114, 32, 58, 58, 32, 105], .int .i64 2], .agg [.int .i64 0, .str [100, 111, 32, 105, 32, 61, 32, 49, 44, 32, 53], .int .i64 3], .agg [.int .i64 0, .str [112, 114, 105, 110, 116, 32, 42, 44, 32, 105], .int .i64 4], .agg [.int .i64 0, .str [101, 110, 100, 32, 100, 111], .int .i64 5], .agg [.int .i64 0, .str [101, 110, 100], .int .i64 6]], .int .i64 0, .int .i64 0]
def nwr : AV := .row none false 3 [.agg [.int .i64 0, .str [112, 114, 111, 103, 114, 97, 109, 32, 112], .int .i64 1], .agg [.int .i64 0, .str [105, 110, 116, 101, 103, 101, 114, 32, 58, 58, 32, 105], .int .i64 2], .agg [.int .i64 0, .str [100, 111, 32, 105, 32, 61, 32, 49, 44, 32, 53], .int .i64 3], .agg [.int .i64 0, .str [112, 114, 105, 110, 116, 32, 42, 44, 32, 105], .int .i64 4], .agg [.int .i64 0, .str [101, 110, 100, 32, 100, 111], .int .i64 5], .agg [.int .i64 0, .str [101, 110, 100], .int .i64 6]]
def pr : AV := .tup [.agg [.row none false 9 [.agg [.str [112, 114, 111, 103, 114, 97, 109], .str [112], .int .i64 1, .pl (.slice none 0 0), .pl (.slice none 0 0), .bool false, .row none false 5 [.agg [.int .i64 1, .str [105], .bool false, .pl (.slice none 0 0), .pl (.slice none 0 0)]], .row none false 6 [.agg [.str [100, 111], .str [105], .int .i64 3, .row none false 4 [.agg [.str [105, 110, 116], .str [], .int .i64 1, .pl (.slice none 0 0)], .agg [.str [105, 110, 116], .str [], .int .i64 5, .pl (.slice none 0 0)]], .row none false 6 [.agg [.str [112, 114, 105, 110, 116], .str [], .int .i64 4, .row none true 4 [.agg [.str [110, 97, 109, 101], .str [105], .int .i64 0, .pl (.slice none 0 0)]], .pl (.slice none 0 0), .pl (.slice none 0 0)]], .pl (.slice none 0 0)]], .pl (.slice none 0 0)]]], .int .i64 0, .int .i64 0]
def tre : AV := .agg [.row none false 9 [.agg [.str [112, 114, 111, 103, 114, 97, 109], .str [112], .int .i64 1, .pl (.slice none 0 0), .pl (.slice none 0 0), .bool false, .row none false 5 [.agg [.int .i64 1, .str [105], .bool false, .pl (.slice none 0 0), .pl (.slice none 0 0)]], .row none false 6 [.agg [.str [100, 111], .str [105], .int .i64 3, .row none false 4 [.agg [.str [105, 110, 116], .str [], .int .i64 1, .pl (.slice none 0 0)], .agg [.str [105, 110, 116], .str [], .int .i64 5, .pl (.slice none 0 0)]], .row none false 6 [.agg [.str [112, 114, 105, 110, 116], .str [], .int .i64 4, .row none true 4 [.agg [.str [110, 97, 109, 101], .str [105], .int .i64 0, .pl (.slice none 0 0)]], .pl (.slice none 0 0), .pl (.slice none 0 0)]], .pl (.slice none 0 0)]], .pl (.slice none 0 0)]]]
def vl : AV := .bool true
def mNW : Nat × List (List AV × AV) := (59, [([.str tx], nw)])
def mPR : Nat × List (List AV × AV) := (61, [([nwr], pr)])
def mVL : Nat × List (List AV × AV) := (228, [([tre], vl)])
def fi : AV := .tup [.agg [.str [112], .str [105], .int .i64 1, .int .i64 0, .bool false], .int .i64 0]
def kn : AV := .tup [.row none false 1 [.str [105]], .int .i64 0]
def pe1 : AV := .tup [.agg [.str [111, 112], .str [61, 61], .int .i64 0, .row none true 4 [.agg [.str [110, 97, 109, 101], .str [105], .int .i64 0, .pl (.slice none 0 0)], .agg [.str [105, 110, 116], .str [], .int .i64 3, .pl (.slice none 0 0)]]], .int .i64 0]
def pe2 : AV := .tup [.agg [.str [110, 97, 109, 101], .str [105], .int .i64 0, .pl (.slice none 0 0)], .int .i64 0]
def sw : AV := .tup [.str [51], .int .i64 0]
def mFI : Nat × List (List AV × AV) := (439, [([tre, .str [112], .str [105]], fi)])
def mKN : Nat × List (List AV × AV) := (386, [([tre, .str [112]], kn)])
def mPE : Nat × List (List AV × AV) := (22, [([.str [105, 32, 61, 61, 32, 51]], pe1), ([.str [105]], pe2)])
def ck : AV := .tup [.agg [.int .i64 0, .int .i64 0, .str []], .int .i64 0]
def na : AV := .row none false 5 [.agg [.str [112], .str [105], .int .i64 1, .int .i64 0, .bool false]]
def mCK : Nat × List (List AV × AV) := (226, [([tre], ck)])
def mNA : Nat × List (List AV × AV) := (129, [([tre, .str [112]], na)])
def shA : List AV := [.agg [.int .i64 1, .pl (.slice none 0 0), .row none false 1 [.int .i64 3]], .pl (.slice none 0 0)]
def mSH : Nat × List (List AV × AV) := (24, [(shA, .str [51])])
def mSW : Nat × List (List AV × AV) := (51, [([.agg [.int .i64 1, .int .i64 3]], sw)])
end Go.Proofs.YtanfmlmcddanjaaGreatDoorR
