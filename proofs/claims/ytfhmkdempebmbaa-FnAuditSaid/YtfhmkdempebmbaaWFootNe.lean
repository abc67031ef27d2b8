-- written by wip/pr_patch.py and wip/prune.py: a changed print's words, those that are used
import Derived.Test.YtfhmkdempebmbaaWN
